/- Two lists of points l1 one: plain facts. -/
import Derived.Laws.Bits64
import Derived.Test.YtfkklcmepcocoaaGreatDoorMkc
import Derived.OwnWalk
import Derived.BigQuiet
import Derived.Lib.AppendZerosOnto
import Derived.Lib.AppendZeros
import Derived.Lib.SliceRun
namespace Go.Proofs.YtfkklcmepcocoaaGreatDoor
open Go
set_option linter.unusedVariables false

def mergeP : List (Int × Int) → List (Int × Int) → List (Int × Int)
  | [], b => b
  | a :: l1, [] => a :: l1
  | a :: l1, b :: l2 => if a.1 < b.1 then a :: mergeP l1 (b :: l2) else if b.1 < a.1 then b :: mergeP (a :: l1) l2 else mergeP l1 (b :: l2)
termination_by a b => a.length + b.length
theorem merge_nil (a : List (Int × Int)) : mergeP a [] = a := by cases a <;> rw [mergeP]
theorem merge_lt {a b : Int × Int} {l1 l2 : List (Int × Int)} (h : a.1 < b.1) : mergeP (a :: l1) (b :: l2) = a :: mergeP l1 (b :: l2) := by rw [mergeP, if_pos h]
theorem merge_gt {a b : Int × Int} {l1 l2 : List (Int × Int)} (h : b.1 < a.1) : mergeP (a :: l1) (b :: l2) = b :: mergeP (a :: l1) l2 := by rw [mergeP, if_neg (by omega), if_pos h]
theorem merge_eq {a b : Int × Int} {l1 l2 : List (Int × Int)} (h : a.1 = b.1) : mergeP (a :: l1) (b :: l2) = mergeP l1 (b :: l2) := by rw [mergeP, if_neg (by omega), if_neg (by omega)]
theorem merge_len (a b : List (Int × Int)) : (mergeP a b).length ≤ a.length + b.length := by
  fun_induction mergeP a b with
  | case1 => simp
  | case2 => simp
  | case3 a l1 b l2 h ih => simp only [List.length_cons] at *; omega
  | case4 a l1 b l2 h h2 ih => simp only [List.length_cons] at *; omega
  | case5 a l1 b l2 h h2 ih => simp only [List.length_cons] at *; omega
theorem merge_mem {a b : List (Int × Int)} {x : Int × Int} (h : x ∈ mergeP a b) : x ∈ a ∨ x ∈ b := by
  revert h
  fun_induction mergeP a b with
  | case1 => exact .inr
  | case2 => exact .inl
  | case3 a l1 b l2 h ih =>
    intro hx
    rcases List.mem_cons.1 hx with rfl | hx
    · exact .inl List.mem_cons_self
    · rcases ih hx with h | h
      · exact .inl (List.mem_cons_of_mem _ h)
      · exact .inr h
  | case4 a l1 b l2 h h2 ih =>
    intro hx
    rcases List.mem_cons.1 hx with rfl | hx
    · exact .inr List.mem_cons_self
    · rcases ih hx with h | h
      · exact .inl h
      · exact .inr (List.mem_cons_of_mem _ h)
  | case5 a l1 b l2 h h2 ih =>
    intro hx
    rcases ih hx with h | h
    · exact .inl (List.mem_cons_of_mem _ h)
    · exact .inr h
def Rises (l : List (Int × Int)) : Prop := l.Pairwise fun p q => p.1 < q.1
theorem merge_rises {a b : List (Int × Int)} (ha : Rises a) (hb : Rises b) : Rises (mergeP a b) := by
  revert ha hb
  fun_induction mergeP a b with
  | case1 => exact fun _ h => h
  | case2 => exact fun h _ => h
  | case3 a l1 b l2 h ih =>
    intro ha hb
    have h1 := List.pairwise_cons.1 ha
    have h2 := List.pairwise_cons.1 hb
    refine List.pairwise_cons.2 ⟨fun x hx => ?_, ih h1.2 hb⟩
    rcases merge_mem hx with hx | hx
    · exact h1.1 x hx
    · rcases List.mem_cons.1 hx with rfl | hx
      · exact h
      · have := h2.1 x hx; omega
  | case4 a l1 b l2 h h2 ih =>
    intro ha hb
    have h1 := List.pairwise_cons.1 ha
    have h3 := List.pairwise_cons.1 hb
    refine List.pairwise_cons.2 ⟨fun x hx => ?_, ih ha h3.2⟩
    rcases merge_mem hx with hx | hx
    · rcases List.mem_cons.1 hx with rfl | hx
      · exact h2
      · have := h1.1 x hx; omega
    · exact h3.1 x hx
  | case5 a l1 b l2 h h2 ih => exact fun ha hb => ih (List.pairwise_cons.1 ha).2 hb
theorem merge_skip {b : Int × Int} {m l2 : List (Int × Int)} (h : ∀ x ∈ m, b.1 < x.1) : mergeP m (b :: l2) = b :: mergeP m l2 := by
  cases m with
  | nil => rw [mergeP, mergeP]
  | cons x m => exact merge_gt (h x List.mem_cons_self)
theorem merge_self : ∀ {l : List (Int × Int)}, Rises l → mergeP l l = l
  | [], _ => by rw [mergeP]
  | b :: l2, h => by
    have h1 := List.pairwise_cons.1 h
    rw [merge_eq rfl, merge_skip h1.1, merge_self h1.2]
theorem merge_mb {a b : List (Int × Int)} (ha : Rises a) (hb : Rises b) : mergeP (mergeP a b) b = mergeP a b := by
  revert ha hb
  fun_induction mergeP a b with
  | case1 => exact fun _ h => merge_self h
  | case2 => exact fun h _ => merge_nil _
  | case3 a l1 b l2 h ih =>
    intro ha hb
    rw [merge_lt h, ih (List.pairwise_cons.1 ha).2 hb]
  | case4 a l1 b l2 h h2 ih =>
    intro ha hb
    have h1 := List.pairwise_cons.1 ha
    have h3 := List.pairwise_cons.1 hb
    rw [merge_eq rfl, merge_skip, ih ha h3.2]
    intro x hx
    rcases merge_mem hx with hx | hx
    · rcases List.mem_cons.1 hx with rfl | hx
      · exact h2
      · have := h1.1 x hx; omega
    · exact h3.1 x hx
  | case5 a l1 b l2 h h2 ih => exact fun ha hb => ih (List.pairwise_cons.1 ha).2 hb
theorem merge_am {a b : List (Int × Int)} (ha : Rises a) (hb : Rises b) : mergeP a (mergeP a b) = mergeP a b := by
  revert ha hb
  fun_induction mergeP a b with
  | case1 => intro _ _; rw [mergeP]
  | case2 => exact fun h _ => merge_self h
  | case3 a l1 b l2 h ih =>
    intro ha hb
    have h1 := List.pairwise_cons.1 ha
    rw [merge_eq rfl, merge_skip h1.1, ih h1.2 hb]
  | case4 a l1 b l2 h h2 ih =>
    intro ha hb
    rw [merge_gt h2, ih ha (List.pairwise_cons.1 hb).2]
  | case5 a l1 b l2 h h2 ih =>
    intro ha hb
    have h1 := List.pairwise_cons.1 ha
    have ih' := ih h1.2 hb
    have e : mergeP l1 (b :: l2) = b :: mergeP l1 l2 := merge_skip (fun x hx => by have := h1.1 x hx; omega)
    rw [e] at ih' ⊢
    rw [merge_eq (by omega), ih']
end Go.Proofs.YtfkklcmepcocoaaGreatDoor

namespace Go.Proofs.YtfkklcmepcocoaaGreatDoor
open Go.RowKit
set_option linter.unusedVariables false

theorem drop_at {l : List (Int × Int)} {k : Nat} {y : Int × Int} (h : l[k]? = some y) : l.drop k = y :: l.drop (k + 1) := by
  have hk : k < l.length := (List.getElem?_eq_some_iff.1 h).1
  rw [List.drop_eq_getElem_cons hk]; congr 1; exact (List.getElem?_eq_some_iff.1 h).2
theorem ptsC_append (a b : List (Int × Int)) : ptsC (a ++ b) = ptsC a ++ ptsC b := by simp [ptsC]
theorem ptsC_drop (a : List (Int × Int)) (k : Nat) : (ptsC a).drop (k * 2) = ptsC (a.drop k) := flat_drop (fun p : Int × Int => [Value.int .i64 p.1, Value.int .u64 p.2]) 2 (fun _ => rfl) a k
theorem ptsC_len (a : List (Int × Int)) : (ptsC a).length = a.length * 2 := flat_len (fun p : Int × Int => [Value.int .i64 p.1, Value.int .u64 p.2]) 2 (fun _ => rfl) a
theorem mg_append {w wr wa : World} {v v' : Value} {l : List (Int × Int)} {y : Int × Int} (hown : wr.ownsRow w.heap.size 51 2 v l.length (ptsC l)) (hb : Below w.heap.size w wr)
    (hown' : wa.ownsRow w.heap.size 51 2 v' (l.length + 1) (ptsC l ++ ptsC [y])) (hgr : (wr.alloc (.cells #[.int .i64 y.1, .int .u64 y.2] 51)).grownBy wa v.ownBlock) :
    wa.ownsRow w.heap.size 51 2 v' (l ++ [y]).length (ptsC (l ++ [y])) ∧ Below w.heap.size w wa :=
  ⟨by rw [List.length_append, ptsC_append]; exact hown', Below.grown (Below.alloc hb hb.size _) hgr (by have := hb.size; simp; omega) (fun g hg => (own_lt hown g hg).1)⟩
theorem mg_more {w wr wa : World} {v v' : Value} {l m : List (Int × Int)} {r : Nat} (hr : r = m.length) (hown : wr.ownsRow w.heap.size 51 2 v l.length (ptsC l)) (hb : Below w.heap.size w wr)
    (hown' : wa.ownsRow w.heap.size 51 2 v' (l.length + r) (ptsC l ++ ptsC m)) (hgr : wr.grownBy wa v.ownBlock) :
    wa.ownsRow w.heap.size 51 2 v' (l ++ m).length (ptsC (l ++ m)) ∧ Below w.heap.size w wa :=
  ⟨by rw [List.length_append, ptsC_append, ← hr]; exact hown', Below.grown hb hgr hb.size (fun g hg => (own_lt hown g hg).1)⟩

end Go.Proofs.YtfkklcmepcocoaaGreatDoor

namespace Go.Proofs.YtfkklcmepcocoaaGreatDoor
open Go.RowKit
set_option linter.unusedVariables false

/-- A slice value, and the cells that it reads as. -/
structure Sl where
  A : Option Addr
  n : Nat
  c : Nat
  xs : List Value
def Sl.v (s : Sl) : Value := .slice s.A s.n s.c
def sumS (ss : List Sl) : Nat := (ss.map Sl.n).sum
theorem sumS_next {ss : List Sl} {k : Nat} {s : Sl} (h : ss[k]? = some s) : sumS (ss.take (k + 1)) = sumS (ss.take k) + s.n := by
  unfold sumS; rw [take_snoc h, List.map_append, List.sum_append]; simp
theorem sumS_le (ss : List Sl) (k : Nat) : sumS (ss.take k) ≤ sumS ss := by
  have h : sumS ss = sumS (ss.take k) + sumS (ss.drop k) := by
    conv => lhs; rw [← List.take_append_drop k ss]
    unfold sumS; rw [List.map_append, List.sum_append]
  omega
theorem xsS_next {ss : List Sl} {k : Nat} {s : Sl} (h : ss[k]? = some s) : (ss.take (k + 1)).flatMap Sl.xs = (ss.take k).flatMap Sl.xs ++ s.xs := by
  rw [take_snoc h, List.flatMap_append]; simp
theorem cc_append {w wr wa : World} {v v' : Value} {m r : Nat} {l xs : List Value} (hown : wr.ownsRow w.heap.size 51 2 v m l) (hb : Below w.heap.size w wr)
    (hown' : wa.ownsRow w.heap.size 51 2 v' (m + r) (l ++ xs)) (hgr : wr.grownBy wa v.ownBlock) :
    wa.ownsRow w.heap.size 51 2 v' (m + r) (l ++ xs) ∧ Below w.heap.size w wa :=
  ⟨hown', Below.grown hb hgr hb.size (fun g hg => (own_lt hown g hg).1)⟩

theorem grow_zero (w : World) : Calls Tryz.prog 105 #[.slice none 0 0, .int .i64 0] w fun e w' => e = .returned (.slice none 0 0) ∧ w = w' := by
  go_enter Tryz.func105, Tryz.ntmps105
  go_wp2
  go_ret
  exact ⟨rfl, rfl⟩
set_option maxRecDepth 100000 in
set_option maxHeartbeats 4000000 in
theorem grow_pos (n : Nat) (w : World) (h0 : 0 < n) (hn : n ≤ 100000) :
    Calls Tryz.prog 105 #[.slice none 0 0, .int .i64 n] w fun e w' => ∃ v, e = .returned v ∧ w'.ownsRow w.heap.size 51 2 v 0 [] ∧ Below w.heap.size w w' := by
  obtain ⟨i0, hi, hz0, hz1, hz2⟩ := info_parts infoPt
  have hold : (Builtin.firstCells i0.size 0 (.slice none 0 0)).run Tryz.prog w.drew = .ok ([] : List Value).toArray w.drew := run_firstCells_none w.drew i0.size 0 0 0
  have hrz : ∀ ty, (Builtin.append_ #[33, 3] ty #[.slice none 0 0, .int .i64 (n : Int)]).run Tryz.prog w =
      .ok (.slice (some ⟨w.heap.size, 0, none⟩) n (grownCap w n 0 51)) (w.drew.alloc (.cells (#[] ++ Builtin.zeroCells (Value.agg #[.int .i64 0, .int .u64 0]).cells n ++ Builtin.zeroCells (Value.agg #[.int .i64 0, .int .u64 0]).cells (grownCap w n 0 51 - n)) 51)) := fun ty => by
    have h := Lib.run_append_grow_zeros w 33 3 ty 51 i0 (.agg #[.int .i64 0, .int .u64 0]) .i64 .i64 Tryz.underlying33 Tryz.underlying3 hi hz0 none 0 0 [] hold n h0 (by rw [hz1]; decide) (by omega) (by omega)
      (by rw [hz2]; omega) (by rw [hz2, Nat.zero_add]; exact growslice_fits h0 (by omega))
    rw [Nat.zero_add] at h
    exact h
  have hGn : n ≤ grownCap w n 0 51 := grownCap_ge w _ _ _
  have hGm : grownCap w n 0 51 ≤ maxLen := grownCap_le_maxLen w n 0 51 (by unfold maxLen; omega)
  generalize grownCap w n 0 51 = G at hrz hGn hGm
  have hown : (w.drew.alloc (.cells (#[] ++ Builtin.zeroCells (Value.agg #[.int .i64 0, .int .u64 0]).cells n ++ Builtin.zeroCells (Value.agg #[.int .i64 0, .int .u64 0]).cells (G - n)) 51)).ownsRow w.heap.size 51 2 (.slice (some ⟨w.heap.size, 0, none⟩) 0 G) 0 [] := by
    refine ⟨rfl, .inr ⟨w.heap.size, G, _, rfl, Nat.le_refl _, Blk.new w.drew _ _, Nat.zero_le _, hGm, ?_, by simp⟩⟩
    rw [Array.size_append, Array.size_append, size_zeroCells, size_zeroCells]
    show 0 + n * 2 + (G - n) * 2 = G * 2
    omega
  have hbel : Below w.heap.size w (w.drew.alloc (.cells (#[] ++ Builtin.zeroCells (Value.agg #[.int .i64 0, .int .u64 0]).cells n ++ Builtin.zeroCells (Value.agg #[.int .i64 0, .int .u64 0]).cells (G - n)) 51)) := Below.alloc (Below.refl _ w).drew (Nat.le_refl _) _
  generalize hW : w.drew.alloc (.cells (#[] ++ Builtin.zeroCells (Value.agg #[.int .i64 0, .int .u64 0]).cells n ++ Builtin.zeroCells (Value.agg #[.int .i64 0, .int .u64 0]).cells (G - n)) 51) = W at hrz hown hbel
  have Hrz := Lib.hid hrz; have Hown := Lib.hid hown; have Hbel := Lib.hid hbel
  have hG63 : (G : Int) ≤ 9223372036854775807 := by unfold maxLen at hGm; omega
  have h0' : (0 : Int) < (n : Int) := by omega
  clear hrz hown hbel hW hold hi hz0 hz1 hz2 hGm
  go_enter Tryz.func105, Tryz.ntmps105
  go_wp2_with (at_builtin; refine Lib.wpList_append_run _ rfl _ _ _ _ rfl _ _ rfl rfl _ _ (Hrz.out _) ?_)
  go_ret
  exact ⟨_, rfl, Hown.out, Hbel.out⟩

set_option maxRecDepth 100000 in
set_option maxHeartbeats 4000000 in
theorem concat_any (g m c : Nat) (ss : List Sl) (w : World) (hg : Rd w w.heap.size 1 (some ⟨g, 0, none⟩) m (ss.map Sl.v)) (hss : ∀ s ∈ ss, Rd w w.heap.size 2 s.A s.n s.xs ∧ ∀ u ∈ s.xs, u.oneCell' = true)
    (hm : m ≤ 1000) (hsum : sumS ss ≤ 100000) :
    Calls Tryz.prog 68 #[.slice (some ⟨g, 0, none⟩) m c] w fun e w' => ∃ v, e = .returned v ∧ w'.ownsRow w.heap.size 51 2 v (sumS ss) (ss.flatMap Sl.xs) ∧ Below w.heap.size w w' := by
  have hlen : ss.length = m := by have := hg.1; rw [List.length_map] at this; omega
  obtain ⟨i0, hi, hz0, hz1, hz2⟩ := info_parts infoPt
  have Hi := Lib.hid hi; have Hz0 := Lib.hid hz0; have Hz1 := Lib.hid hz1; have Hz2 := Lib.hid hz2
  have Hg := Lib.hid hg; have Hss := Lib.hid hss; have Hlen := Lib.hid hlen; have Hsum := Lib.hid hsum
  clear hi hz0 hz1 hz2 hg hss hlen hsum
  go_enter Tryz.func68, Tryz.ntmps68
  go_wp2
  go_loop [3, 11] (fun z iv => ∃ k : Nat, k ≤ m ∧ iv = .int .i64 k ∧ z = .int .i64 (sumS (ss.take k))) (fun _ iv => m - (intOf iv).toNat)
  case atStart => exact ⟨0, Nat.zero_le _, rfl, rfl⟩
  case round =>
    obtain ⟨k, hk, rfl, rfl⟩ := hrel
    by_cases hkm : k < m
    · obtain ⟨b, o, s, hA, hb, hs, hc⟩ := Hg.out.at1 hkm
      injection hA with hA
      injection hA with hA1 hA2
      subst hA1; subst hA2
      obtain ⟨z, hz⟩ : ∃ z, z = sumS (ss.take k) := ⟨_, rfl⟩
      have hnx := sumS_next hs
      have hle := sumS_le ss (k + 1)
      have hsm := Hsum.out
      rw [← hz] at hnx ⊢
      have hz2 : z + s.n ≤ 100000 := by omega
      have Hnx := Lib.hid hnx
      unfold Sl.v at hc
      rw [Nat.zero_add] at hc
      clear hs hz hnx hle hsm
      go_wp2
      go_round
      case rel => exact ⟨k + 1, by omega, by go_num, by rw [Hnx.out]; go_num⟩
      case measure => simp [intOf]; omega
    · obtain rfl : k = m := by omega
      have htk : ss.take k = ss := List.take_of_length_le (by rw [Hlen.out]; exact Nat.le_refl _)
      rw [htk]
      obtain ⟨z, hz⟩ : ∃ z, z = sumS ss := ⟨_, rfl⟩
      rw [← hz]
      have hz1 : z ≤ 100000 := by rw [hz]; exact Hsum.out
      have Hz := Lib.hid hz
      clear hz htk
      have hgrow : Calls Tryz.prog 105 #[.slice none 0 0, .int .i64 z] w fun e w' => ∃ v, e = .returned v ∧ w'.ownsRow w.heap.size 51 2 v 0 [] ∧ Below w.heap.size w w' := by
        rcases Nat.eq_zero_or_pos z with h0 | h0
        · subst h0
          exact (grow_zero w).mono fun e w' ⟨he, hw⟩ => ⟨_, he, by rw [← hw]; exact World.ownsRow_nil _ _ _ _, by rw [← hw]; exact Below.refl _ _⟩
        · exact grow_pos z w h0 hz1
      have Hgrow := Lib.hid hgrow
      clear hgrow
      go_wp2_with fail
      refine Hgrow.out.mono ?_
      rintro e w1 ⟨v, rfl, hown, hbel⟩
      have Hown := Lib.hid hown; have Hbel := Lib.hid hbel
      clear hown hbel
      go_wp2
      go_loopw [6, 27] (fun o iv wr => ∃ j : Nat, j ≤ k ∧ iv = .int .i64 j ∧ wr.ownsRow w.heap.size 51 2 o (sumS (ss.take j)) ((ss.take j).flatMap Sl.xs) ∧ Below w.heap.size w wr) (fun _ iv _ => k - (intOf iv).toNat)
      case atStart => exact ⟨0, Nat.zero_le _, rfl, Hown.out, Hbel.out⟩
      case round =>
        obtain ⟨j, hj, rfl, hown, hbel⟩ := hrel
        obtain ⟨Ao, co, rfl, _, _, _⟩ := own_form hown
        have hws : w.heap.size ≤ wr.heap.size := hbel.size
        have Hown2 := Lib.hid hown; have Hbel2 := Lib.hid hbel
        clear hown hbel
        by_cases hjk : j < k
        · obtain ⟨b, o, s, hA, hb, hs, hc⟩ := (Hg.out.below Hbel2.out).at1 hjk
          injection hA with hA
          injection hA with hA1 hA2
          subst hA1; subst hA2
          obtain ⟨hsr, hs1⟩ := Hss.out s (List.mem_of_getElem? hs)
          have hnx := sumS_next hs
          have hxn := xsS_next hs
          have hle := sumS_le ss (j + 1)
          have hsm := Hsum.out
          obtain ⟨q, hq⟩ : ∃ q, q = sumS (ss.take j) := ⟨_, rfl⟩
          obtain ⟨cur, hcur⟩ : ∃ cur, cur = (ss.take j).flatMap Sl.xs := ⟨_, rfl⟩
          rw [← hq] at hnx Hown2 ⊢
          rw [← hcur] at hxn Hown2
          have hk63 : q + s.n ≤ maxLen := by unfold maxLen; omega
          have hk8 : (q + s.n) * 16 ≤ 140737488355328 := by omega
          have Hnx := Lib.hid hnx; have Hxn := Lib.hid hxn; have Hs1 := Lib.hid hs1
          have Hsr := Lib.hid ((hsr.below Hbel2.out).more hws)
          unfold Sl.v at hc
          rw [Nat.zero_add] at hc
          clear hs hq hcur hnx hxn hle hsm hs1 hsr
          go_wp2_with (at_builtin; refine wpList_append_rd _ rfl (.tmp 31) (.tmp 32) _ rfl w.heap.size 51 i0 (.agg #[.int .i64 0, .int .u64 0]) 2 16 Tryz.underlying33 Hi.out Hz0.out Hz1.out Hz2.out rfl (by decide) (.slice Ao q co) q _ rfl Hown2.out _ _ s.n s.c s.xs rfl Hsr.out Hs1.out hk63 hk8 hws ?_; intro v' wa hown' hgr hat; have HR := Lib.hid (cc_append Hown2.out Hbel2.out hown' hgr); clear hown' hgr hat)
          go_roundw
          case rel => exact ⟨j + 1, by omega, by go_num, by rw [Hnx.out, Hxn.out]; exact HR.out.1, HR.out.2⟩
          case measure => simp [intOf]; omega
        · obtain rfl : j = k := by omega
          have htk : ss.take j = ss := List.take_of_length_le (by rw [Hlen.out]; exact Nat.le_refl _)
          rw [htk] at Hown2 ⊢
          have Hz2 := Hz
          go_wp2
          go_ret
          exact ⟨_, rfl, Hown2.out, Hbel2.out⟩
end Go.Proofs.YtfkklcmepcocoaaGreatDoor

namespace Go.Proofs.YtfkklcmepcocoaaGreatDoor
open Go.RowKit
set_option linter.unusedVariables false

/-- How long the slice is that block g holds. -/
def lenAt (w : World) (g : Nat) : Nat := match w.cell? ⟨g, 0, none⟩ with
  | some (.slice _ n _) => n
  | _ => 0
theorem lenAt_of {w : World} {g n c : Nat} {t : TypeId} {A : Option Addr} (h : Blk w g t #[.slice A n c]) : lenAt w g = n := by
  unfold lenAt
  rw [show w.cell? ⟨g, 0, none⟩ = some (.slice A n c) from h.cell 0]
/-- What holds at a round's head. -/
structure MgR (w : World) (a b : List (Int × Int)) (s : Nat) (o : Value) (wr : World) (A1 : Option Addr) (n1 c1 : Nat) (l1 : List (Int × Int)) (A2 : Option Addr) (n2 c2 : Nat) (l2 : List (Int × Int)) (acc : List (Int × Int)) : Prop where
  b1 : Blk wr w.heap.size 33 #[.slice A1 n1 c1]
  b2 : Blk wr (w.heap.size + 1) 33 #[.slice A2 n2 c2]
  r1 : Rd w w.heap.size 2 A1 n1 (ptsC l1)
  r2 : Rd w w.heap.size 2 A2 n2 (ptsC l2)
  k1 : n1 ≤ c1
  k2 : n2 ≤ c2
  eq : acc ++ mergeP l1 l2 = mergeP a b
  le : acc.length + n1 + n2 ≤ s
  own : wr.ownsRow (w.heap.size + 2) 51 2 o acc.length (ptsC acc)
  bel : Below w.heap.size w wr
def MgE (w : World) (a b : List (Int × Int)) (s : Nat) (o : Value) (wr : World) : Prop := ∃ A1 n1 c1 l1 A2 n2 c2 l2 acc, MgR w a b s o wr A1 n1 c1 l1 A2 n2 c2 l2 acc
theorem ptsC_drop1 {y : Int × Int} {l : List (Int × Int)} : (ptsC (y :: l)).drop (1 * 2) = ptsC l := by simp [ptsC]
theorem Rd.cut1 {w : World} {A : Option Addr} {n c : Nat} {y : Int × Int} {l : List (Int × Int)} (h : Rd w w.heap.size 2 A n (ptsC (y :: l))) (hn : 1 ≤ n) (hc : n ≤ c) (hc1 : c ≠ 1) {b o : Nat} (hA : A = some ⟨b, o, none⟩) :
    Rd w w.heap.size 2 (some ⟨b, o + 2, none⟩) (n - 1) (ptsC l) := by
  have := h.cut (k := 1) hn hc
  rw [if_neg hc1, ptsC_drop1, hA] at this
  simpa [add_at] using this
theorem Rd.cut0 {w : World} {A : Option Addr} {n : Nat} {y : Int × Int} {l : List (Int × Int)} (h : Rd w w.heap.size 2 A n (ptsC (y :: l))) (hn : n = 1) : Rd w w.heap.size 2 A (n - 1) (ptsC l) := by
  subst hn
  have h1 := h.1
  rw [ptsC_len] at h1
  simp at h1
  obtain rfl : l = [] := List.eq_nil_of_length_eq_zero (by omega)
  exact Rd.empty
theorem head_pt {w : World} {A : Option Addr} {n : Nat} {l : List (Int × Int)} (h : Rd w w.heap.size 2 A n (ptsC l)) (hn : 0 < n) : ∃ b o y l', A = some ⟨b, o, none⟩ ∧ b < w.heap.size ∧ l = y :: l' ∧ w.cell? ⟨b, o, none⟩ = some (.int .i64 y.1) ∧ w.cell? ⟨b, o + 1, none⟩ = some (.int .u64 y.2) := by
  obtain ⟨b, o, y, hA, hb, hy, e0, e1⟩ := h.at2 hn
  cases l with
  | nil => simp at hy
  | cons x l' =>
    simp at hy
    subst hy
    exact ⟨b, o, x, l', hA, hb, rfl, by simpa using e0, by simpa using e1⟩
theorem MgR.first {w : World} {a b : List (Int × Int)} {A A' : Option Addr} {n c n' c' : Nat} (hA : Rd w w.heap.size 2 A n (ptsC a)) (hA' : Rd w w.heap.size 2 A' n' (ptsC b)) (hc : n ≤ c) (hc' : n' ≤ c') :
    MgE w a b (n + n') (.slice none 0 0) ((w.alloc (.cells #[.slice A n c] 33)).alloc (.cells #[.slice A' n' c'] 33)) := by
  have h1 : (w.alloc (.cells #[.slice A n c] 33)).heap.size = w.heap.size + 1 := by simp
  refine ⟨A, n, c, a, A', n', c', b, [], (Blk.new w _ _).alloc _, ?_, hA, hA', hc, hc', rfl, by simp, World.ownsRow_nil _ _ _ _, Below.alloc (Below.alloc (Below.refl _ _) (Nat.le_refl _) _) (by simp) _⟩
  have := Blk.new (w.alloc (.cells #[.slice A n c] 33)) 33 #[.slice A' n' c']
  rw [h1] at this
  exact this
/-- The first of a is dropped. -/
theorem MgR.skip {w wr : World} {a b : List (Int × Int)} {s : Nat} {o : Value} {A1 A2 A3 : Option Addr} {n1 c1 n2 c2 c3 : Nat} {y : Int × Int} {l1 l2 acc : List (Int × Int)} (h : MgR w a b s o wr A1 n1 c1 (y :: l1) A2 n2 c2 l2 acc)
    (hr : Rd w w.heap.size 2 A3 (n1 - 1) (ptsC l1)) (hc : n1 - 1 ≤ c3) (he : mergeP (y :: l1) l2 = mergeP l1 l2) : MgE w a b s o (wr.setCell ⟨w.heap.size, 0, none⟩ (.slice A3 (n1 - 1) c3)) ∧ lenAt (wr.setCell ⟨w.heap.size, 0, none⟩ (.slice A3 (n1 - 1) c3)) w.heap.size = n1 - 1 ∧ lenAt (wr.setCell ⟨w.heap.size, 0, none⟩ (.slice A3 (n1 - 1) c3)) (w.heap.size + 1) = n2 := by
  refine ⟨⟨A3, n1 - 1, c3, l1, A2, n2, c2, l2, acc, h.b1.set_ 0 _, h.b2.far (by simp) _, hr, h.r2, hc, h.k2, by rw [← he]; exact h.eq, by have := h.le; omega, own_set h.own ?_ _, Below.setCell h.bel (by simp) _⟩, lenAt_of (h.b1.set_ 0 _), lenAt_of (h.b2.far (p := ⟨w.heap.size, 0, none⟩) (by simp) _)⟩
  intro e
  have := (own_lt h.own _ e.symm).1
  simp at this
  try omega
/-- The first of a goes behind what there is. -/
theorem MgR.takeA {w wr wa : World} {a b : List (Int × Int)} {s : Nat} {o o' : Value} {A1 A2 A3 : Option Addr} {n1 c1 n2 c2 c3 : Nat} {y : Int × Int} {l1 l2 acc : List (Int × Int)} (h : MgR w a b s o wr A1 n1 c1 (y :: l1) A2 n2 c2 l2 acc)
    (hn : 1 ≤ n1) (hr : Rd w w.heap.size 2 A3 (n1 - 1) (ptsC l1)) (hc : n1 - 1 ≤ c3) (he : mergeP (y :: l1) l2 = y :: mergeP l1 l2)
    (hown' : wa.ownsRow (w.heap.size + 2) 51 2 o' (acc.length + 1) (ptsC acc ++ ptsC [y])) (hgr : (wr.alloc (.cells #[.int .i64 y.1, .int .u64 y.2] 51)).grownBy wa o.ownBlock) :
    MgE w a b s o' (wa.setCell ⟨w.heap.size, 0, none⟩ (.slice A3 (n1 - 1) c3)) ∧ lenAt (wa.setCell ⟨w.heap.size, 0, none⟩ (.slice A3 (n1 - 1) c3)) w.heap.size = n1 - 1 ∧ lenAt (wa.setCell ⟨w.heap.size, 0, none⟩ (.slice A3 (n1 - 1) c3)) (w.heap.size + 1) = n2 := by
  have hne : ∀ k, k < w.heap.size + 2 → some k ≠ o.ownBlock := fun k hk e => by have := (own_lt h.own _ e.symm).1; omega
  refine ⟨⟨A3, n1 - 1, c3, l1, A2, n2, c2, l2, acc ++ [y], ((h.b1.alloc _).grown hgr (hne _ (by omega))).set_ 0 _, ((h.b2.alloc _).grown hgr (hne _ (by omega))).far (by simp) _, hr, h.r2, hc, h.k2, by rw [List.append_assoc, List.singleton_append, ← he]; exact h.eq, by have := h.le; rw [List.length_append, List.length_singleton]; omega, own_set (by rw [List.length_append, ptsC_append]; exact hown') ?_ _, Below.setCell (Below.grown (Below.alloc h.bel h.bel.size _) hgr (by have := h.bel.size; simp; omega) (fun g hg => by have := (own_lt h.own g hg).1; omega)) (by simp) _⟩, lenAt_of (((h.b1.alloc _).grown hgr (hne _ (by omega))).set_ 0 _), lenAt_of (((h.b2.alloc _).grown hgr (hne _ (by omega))).far (p := ⟨w.heap.size, 0, none⟩) (by simp) _)⟩
  intro e
  have := (own_lt hown' _ e.symm).1
  simp at this
  try omega
theorem MgR.takeB {w wr wa : World} {a b : List (Int × Int)} {s : Nat} {o o' : Value} {A1 A2 A3 : Option Addr} {n1 c1 n2 c2 c3 : Nat} {y : Int × Int} {l1 l2 acc : List (Int × Int)} (h : MgR w a b s o wr A1 n1 c1 l1 A2 n2 c2 (y :: l2) acc)
    (hn : 1 ≤ n2) (hr : Rd w w.heap.size 2 A3 (n2 - 1) (ptsC l2)) (hc : n2 - 1 ≤ c3) (he : mergeP l1 (y :: l2) = y :: mergeP l1 l2)
    (hown' : wa.ownsRow (w.heap.size + 2) 51 2 o' (acc.length + 1) (ptsC acc ++ ptsC [y])) (hgr : (wr.alloc (.cells #[.int .i64 y.1, .int .u64 y.2] 51)).grownBy wa o.ownBlock) :
    MgE w a b s o' (wa.setCell ⟨w.heap.size + 1, 0, none⟩ (.slice A3 (n2 - 1) c3)) ∧ lenAt (wa.setCell ⟨w.heap.size + 1, 0, none⟩ (.slice A3 (n2 - 1) c3)) w.heap.size = n1 ∧ lenAt (wa.setCell ⟨w.heap.size + 1, 0, none⟩ (.slice A3 (n2 - 1) c3)) (w.heap.size + 1) = n2 - 1 := by
  have hne : ∀ k, k < w.heap.size + 2 → some k ≠ o.ownBlock := fun k hk e => by have := (own_lt h.own _ e.symm).1; omega
  refine ⟨⟨A1, n1, c1, l1, A3, n2 - 1, c3, l2, acc ++ [y], ((h.b1.alloc _).grown hgr (hne _ (by omega))).far (by simp) _, ((h.b2.alloc _).grown hgr (hne _ (by omega))).set_ 0 _, h.r1, hr, h.k1, hc, by rw [List.append_assoc, List.singleton_append, ← he]; exact h.eq, by have := h.le; rw [List.length_append, List.length_singleton]; omega, own_set (by rw [List.length_append, ptsC_append]; exact hown') ?_ _, Below.setCell (Below.grown (Below.alloc h.bel h.bel.size _) hgr (by have := h.bel.size; simp; omega) (fun g hg => by have := (own_lt h.own g hg).1; omega)) (by simp) _⟩, lenAt_of (((h.b1.alloc _).grown hgr (hne _ (by omega))).far (p := ⟨w.heap.size + 1, 0, none⟩) (by simp) _), lenAt_of (((h.b2.alloc _).grown hgr (hne _ (by omega))).set_ 0 _)⟩
  intro e
  have := (own_lt hown' _ e.symm).1
  simp at this
  try omega
theorem MgE.drewN {w wr : World} {a b : List (Int × Int)} {s : Nat} {o : Value} (h : MgE w a b s o wr) (q : Nat) : MgE w a b s o (wr.drewN q) := by
  obtain ⟨A1, n1, c1, l1, A2, n2, c2, l2, acc, h⟩ := h
  exact ⟨A1, n1, c1, l1, A2, n2, c2, l2, acc, h.b1, h.b2, h.r1, h.r2, h.k1, h.k2, h.eq, h.le, h.own, Below.drewN h.bel q⟩
theorem MgR.drewN {w wr : World} {a b : List (Int × Int)} {s : Nat} {o : Value} {A1 A2 : Option Addr} {n1 c1 n2 c2 : Nat} {l1 l2 acc : List (Int × Int)} (h : MgR w a b s o wr A1 n1 c1 l1 A2 n2 c2 l2 acc) (q : Nat) : MgR w a b s o (wr.drewN q) A1 n1 c1 l1 A2 n2 c2 l2 acc :=
  ⟨h.b1, h.b2, h.r1, h.r2, h.k1, h.k2, h.eq, h.le, h.own, Below.drewN h.bel q⟩

theorem MgR.after {w wr wa : World} {a b : List (Int × Int)} {s : Nat} {o : Value} {A1 A2 : Option Addr} {n1 c1 n2 c2 : Nat} {l1 l2 acc : List (Int × Int)} (h : MgR w a b s o wr A1 n1 c1 l1 A2 n2 c2 l2 acc) {ob : Obj} (hgr : (wr.alloc ob).grownBy wa o.ownBlock) :
    (wa.cell? ⟨w.heap.size, 0, none⟩ = some (.slice A1 n1 c1) ∧ wa.frozen? ⟨w.heap.size, 0, none⟩ = false) ∧ (wa.cell? ⟨w.heap.size + 1, 0, none⟩ = some (.slice A2 n2 c2) ∧ wa.frozen? ⟨w.heap.size + 1, 0, none⟩ = false) := by
  have hne : ∀ k, k < w.heap.size + 2 → some k ≠ o.ownBlock := fun k hk e => by have := (own_lt h.own _ e.symm).1; omega
  have k1 := (h.b1.alloc ob).grown hgr (hne _ (by omega))
  have k2 := (h.b2.alloc ob).grown hgr (hne _ (by omega))
  exact ⟨⟨k1.cell 0, k1.frozen 0⟩, ⟨k2.cell 0, k2.frozen 0⟩⟩

theorem lt_of_eq_sum {x y x' y' n1 n2 : Nat} (h1 : x = n1 - 1) (h2 : y = n2) (h3 : x' = n1) (h4 : y' = n2) (h : 0 < n1) : x + y < x' + y' := by omega
theorem lt_of_eq_sum2 {x y x' y' n1 n2 : Nat} (h1 : x = n1) (h2 : y = n2 - 1) (h3 : x' = n1) (h4 : y' = n2) (h : 0 < n2) : x + y < x' + y' := by omega
/-- Behind the loop: the three lists as one. -/
theorem mg_cat {w wr : World} {a b : List (Int × Int)} {s : Nat} {Ao : Option Addr} {co : Nat} {A1 A2 : Option Addr} {n1 c1 n2 c2 : Nat} {l1 l2 acc : List (Int × Int)} (h : MgR w a b s (.slice Ao acc.length co) wr A1 n1 c1 l1 A2 n2 c2 l2 acc) (hws : w.heap.size + 2 ≤ wr.heap.size) (hs : acc.length + n1 + n2 ≤ 20000)
    (hcat : acc ++ (l1 ++ l2) = mergeP a b) (q : Nat) :
    Calls Tryz.prog 68 #[.slice (some ⟨wr.heap.size, 0, none⟩) 3 3] (wr.alloc (.cells #[.slice Ao acc.length co, .slice A1 n1 c1, .slice A2 n2 c2] 33)) fun e w' =>
      ∃ v, e = .returned v ∧ w'.ownsRow w.heap.size 51 2 v (mergeP a b).length (ptsC (mergeP a b)) ∧ Below w.heap.size w w' := by
  have hb := Blk.new wr 33 #[.slice Ao acc.length co, .slice A1 n1 c1, .slice A2 n2 c2]
  have hb2 : Below w.heap.size w (wr.alloc (.cells #[.slice Ao acc.length co, .slice A1 n1 c1, .slice A2 n2 c2] 33)) := Below.alloc h.bel (by omega) _
  have hl1 : l1.length = n1 := by have := h.r1.1; rw [ptsC_len] at this; omega
  have hl2 : l2.length = n2 := by have := h.r2.1; rw [ptsC_len] at this; omega
  have hlen : (mergeP a b).length = acc.length + (n1 + (n2 + 0)) := by rw [← hcat, List.length_append, List.length_append, hl1, hl2]; rfl
  have hr : Rd wr wr.heap.size 2 Ao acc.length (ptsC acc) := Rd.of_own h.own
  refine (concat_any wr.heap.size 3 3 [⟨Ao, acc.length, co, ptsC acc⟩, ⟨A1, n1, c1, ptsC l1⟩, ⟨A2, n2, c2, ptsC l2⟩] _ ⟨rfl, fun _ => ⟨_, _, rfl, hb.lt, fun j u hu => by rw [Nat.zero_add, hb.cell]; simpa [Sl.v] using hu⟩⟩ ?_ (by omega) ?_).mono ?_
  · intro s hs
    simp only [List.mem_cons, List.mem_nil_iff, or_false] at hs
    rcases hs with rfl | rfl | rfl
    · exact ⟨(hr.alloc (Nat.le_refl _) _).more (by simp), ptsC_one acc⟩
    · exact ⟨(h.r1.below hb2).more hb2.size, ptsC_one l1⟩
    · exact ⟨(h.r2.below hb2).more hb2.size, ptsC_one l2⟩
  · show acc.length + (n1 + (n2 + 0)) ≤ 100000
    omega
  · rintro e w' ⟨v, rfl, hown, hbel⟩
    refine ⟨v, rfl, ?_, Below.call hb2 hbel hb2.size⟩
    have e1 : sumS [⟨Ao, acc.length, co, ptsC acc⟩, ⟨A1, n1, c1, ptsC l1⟩, ⟨A2, n2, c2, ptsC l2⟩] = (mergeP a b).length := by rw [hlen]; rfl
    have e2 : ([⟨Ao, acc.length, co, ptsC acc⟩, ⟨A1, n1, c1, ptsC l1⟩, ⟨A2, n2, c2, ptsC l2⟩] : List Sl).flatMap Sl.xs = ptsC (mergeP a b) := by
      rw [← hcat, ptsC_append, ptsC_append]
      simp
    rw [e1, e2] at hown
    exact own_base hown (by simp; omega)

set_option maxRecDepth 100000 in
set_option maxHeartbeats 8000000 in
theorem merge_any (A : Option Addr) (n c : Nat) (A' : Option Addr) (n' c' : Nat) (a b : List (Int × Int)) (w : World) (hA : Rd w w.heap.size 2 A n (ptsC a)) (hA' : Rd w w.heap.size 2 A' n' (ptsC b)) (hn : n ≤ 10000) (hn' : n' ≤ 10000) (hc : n ≤ c) (hc' : n' ≤ c') :
    Calls Tryz.prog 35 #[.slice A n c, .slice A' n' c'] w fun e w' => ∃ v, e = .returned v ∧ w'.ownsRow w.heap.size 51 2 v (mergeP a b).length (ptsC (mergeP a b)) ∧ Below w.heap.size w w' := by
  obtain ⟨i0, hi, hz0, hz1, hz2⟩ := info_parts infoPt
  have Hi := Lib.hid hi; have Hz0 := Lib.hid hz0; have Hz1 := Lib.hid hz1; have Hz2 := Lib.hid hz2
  have H0 := Lib.hid (MgR.first hA hA' hc hc')
  clear hi hz0 hz1 hz2 hA hA'
  go_enter Tryz.func35, Tryz.ntmps35
  go_wp2
  go_loopw [5] (fun o wr => MgE w a b (n + n') o wr) (fun _ wr => lenAt wr w.heap.size + lenAt wr (w.heap.size + 1))
  case atStart => exact H0.out
  case round =>
    clear H0
    obtain ⟨A1, n1, c1, l1, A2, n2, c2, l2, acc, h⟩ := hrel
    obtain ⟨Ao, co, rfl, _, _, _⟩ := own_form h.own
    have H := Lib.hid h
    have hL1 := Lib.hid (lenAt_of h.b1); have hL2 := Lib.hid (lenAt_of h.b2)
    have a1 : wr.cell? ⟨w.heap.size, 0, none⟩ = some (.slice A1 n1 c1) := h.b1.cell 0
    have a2 : wr.cell? ⟨w.heap.size + 1, 0, none⟩ = some (.slice A2 n2 c2) := h.b2.cell 0
    have f1 : wr.frozen? ⟨w.heap.size, 0, none⟩ = false := h.b1.frozen 0
    have f2 : wr.frozen? ⟨w.heap.size + 1, 0, none⟩ = false := h.b2.frozen 0
    have hs : acc.length + n1 + n2 ≤ 20000 := by have := h.le; omega
    have hk1 := h.k1
    have hk2 := h.k2
    have hws : w.heap.size + 2 ≤ wr.heap.size := by have := h.b2.lt; omega
    clear h
    by_cases h1 : 0 < n1
    · by_cases h2 : 0 < n2
      · obtain ⟨b1, o1, y, l1', rfl, hb1, rfl, e0, e1⟩ := head_pt H.out.r1 h1
        obtain ⟨b2, o2, z, l2', rfl, hb2, rfl, e2, e3⟩ := head_pt H.out.r2 h2
        have x0 : wr.cell? ⟨b1, o1, none⟩ = some (.int .i64 y.1) := (H.out.bel.cell (p := ⟨b1, o1, none⟩) hb1).trans e0
        have x1 : wr.cell? ⟨b1, o1 + 1, none⟩ = some (.int .u64 y.2) := (H.out.bel.cell (p := ⟨b1, o1 + 1, none⟩) hb1).trans e1
        have x2 : wr.cell? ⟨b2, o2, none⟩ = some (.int .i64 z.1) := (H.out.bel.cell (p := ⟨b2, o2, none⟩) hb2).trans e2
        have x3 : wr.cell? ⟨b2, o2 + 1, none⟩ = some (.int .u64 z.2) := (H.out.bel.cell (p := ⟨b2, o2 + 1, none⟩) hb2).trans e3
        obtain ⟨y1, y2⟩ := y
        obtain ⟨z1, z2⟩ := z
        simp only at x0 x1 x2 x3
        clear e0 e1 e2 e3
        have hk63 : acc.length + 1 ≤ maxLen := by unfold maxLen; omega
        have hk8 : (acc.length + 1) * 16 ≤ 140737488355328 := by omega
        rcases Int.lt_trichotomy y1 z1 with hlt | heq | hgt
        · have q1 : (y1 == z1) = false := by simp; omega
          have q2 : decide (z1 < y1) = false := by simp; omega
          have He := Lib.hid (show mergeP ((y1, y2) :: l1') ((z1, z2) :: l2') = (y1, y2) :: mergeP l1' ((z1, z2) :: l2') from merge_lt hlt)
          have HrA := Lib.hid (show ∀ q, Rd ((wr.drewN q).alloc (.cells #[.int .i64 y1, .int .u64 y2] 51)) ((wr.drewN q).alloc (.cells #[.int .i64 y1, .int .u64 y2] 51)).heap.size 2 (some ⟨wr.heap.size, 0, none⟩) 1 (ptsC [(y1, y2)]) from fun q => Rd.one2 (wr.drewN q) 51 (y1, y2))
          have Hsz := Lib.hid (show ∀ q, w.heap.size + 2 ≤ ((wr.drewN q).alloc (.cells #[.int .i64 y1, .int .u64 y2] 51)).heap.size from fun q => by simp; omega)
          have HoD := Lib.hid (show ∀ q, ((wr.drewN q).alloc (.cells #[.int .i64 y1, .int .u64 y2] 51)).ownsRow (w.heap.size + 2) 51 2 (.slice Ao acc.length co) acc.length (ptsC acc) from fun q => (own_drewN H.out.own q).alloc _)
          by_cases hc1 : c1 = 1
          · subst hc1
            obtain rfl : n1 = 1 := by omega
            have Hr3 := Lib.hid (Rd.cut0 H.out.r1 (by omega))
            go_wp2
            go_quiet (fail)
            go_wp2
            go_quiet (fail)
            have tok1 : True := trivial
            go_wp2_with (have htok := tok1; at_builtin; refine wpList_append_rd _ rfl (.tmp 35) (.tmp 41) _ rfl (w.heap.size + 2) 51 i0 (.agg #[.int .i64 0, .int .u64 0]) 2 16 Tryz.underlying33 Hi.out Hz0.out Hz1.out Hz2.out rfl (by decide) (.slice Ao acc.length co) acc.length _ rfl (HoD.out _) _ _ 1 1 (ptsC [(y1, y2)]) rfl (HrA.out _) (ptsC_one [(y1, y2)]) hk63 hk8 (Hsz.out _) ?_; intro v' wa hown' hgr hat; clear htok tok1; have HX := Lib.hid (((H.out.drewN _).takeA (by omega) Hr3.out (show _ ≤ 1 - 1 by omega) He.out hown' hgr)); obtain ⟨⟨g1, g2⟩, ⟨g3, g4⟩⟩ := (H.out.drewN _).after hgr; clear hown' hgr hat)
            go_roundw
            case rel => exact HX.out.1
            case measure => exact lt_of_eq_sum HX.out.2.1 HX.out.2.2 hL1.out hL2.out (by omega)
          · have Hr3 := Lib.hid (Rd.cut1 H.out.r1 (by omega) (by omega) hc1 rfl)
            have hcI : (1 : Int) ≤ (c1 : Int) := by omega
            go_wp2
            go_quiet (fail)
            go_wp2
            go_quiet (fail)
            have tok1 : True := trivial
            go_wp2_with (have htok := tok1; at_builtin; refine wpList_append_rd _ rfl (.tmp 35) (.tmp 41) _ rfl (w.heap.size + 2) 51 i0 (.agg #[.int .i64 0, .int .u64 0]) 2 16 Tryz.underlying33 Hi.out Hz0.out Hz1.out Hz2.out rfl (by decide) (.slice Ao acc.length co) acc.length _ rfl (HoD.out _) _ _ 1 1 (ptsC [(y1, y2)]) rfl (HrA.out _) (ptsC_one [(y1, y2)]) hk63 hk8 (Hsz.out _) ?_; intro v' wa hown' hgr hat; clear htok tok1; have HX := Lib.hid (((H.out.drewN _).takeA (by omega) Hr3.out (show _ ≤ c1 - 1 by omega) He.out hown' hgr)); obtain ⟨⟨g1, g2⟩, ⟨g3, g4⟩⟩ := (H.out.drewN _).after hgr; clear hown' hgr hat)
            go_roundw
            case rel => exact HX.out.1
            case measure => exact lt_of_eq_sum HX.out.2.1 HX.out.2.2 hL1.out hL2.out (by omega)
        · subst heq
          have He := Lib.hid (show mergeP ((y1, y2) :: l1') ((y1, z2) :: l2') = mergeP l1' ((y1, z2) :: l2') from merge_eq rfl)
          by_cases hc1 : c1 = 1
          · subst hc1
            obtain rfl : n1 = 1 := by omega
            have Hr3 := Lib.hid (Rd.cut0 H.out.r1 (by omega))
            have HX := Lib.hid (fun q => (H.out.drewN q).skip Hr3.out (show _ ≤ 1 - 1 by omega) He.out)
            go_wp2
            go_quiet (fail)
            go_wp2
            go_roundw
            case rel => exact (HX.out _).1
            case measure => exact lt_of_eq_sum (HX.out _).2.1 (HX.out _).2.2 hL1.out hL2.out (by omega)
          · have Hr3 := Lib.hid (Rd.cut1 H.out.r1 (by omega) (by omega) hc1 rfl)
            have hcI : (1 : Int) ≤ (c1 : Int) := by omega
            have HX := Lib.hid (fun q => (H.out.drewN q).skip Hr3.out (show _ ≤ c1 - 1 by omega) He.out)
            go_wp2
            go_quiet (fail)
            go_wp2
            go_roundw
            case rel => exact (HX.out _).1
            case measure => exact lt_of_eq_sum (HX.out _).2.1 (HX.out _).2.2 hL1.out hL2.out (by omega)
        · have q1 : (y1 == z1) = false := by simp; omega
          have q2 : decide (z1 < y1) = true := by simp; omega
          have He := Lib.hid (show mergeP ((y1, y2) :: l1') ((z1, z2) :: l2') = (z1, z2) :: mergeP ((y1, y2) :: l1') l2' from merge_gt hgt)
          have HrA := Lib.hid (show ∀ q, Rd ((wr.drewN q).alloc (.cells #[.int .i64 z1, .int .u64 z2] 51)) ((wr.drewN q).alloc (.cells #[.int .i64 z1, .int .u64 z2] 51)).heap.size 2 (some ⟨wr.heap.size, 0, none⟩) 1 (ptsC [(z1, z2)]) from fun q => Rd.one2 (wr.drewN q) 51 (z1, z2))
          have Hsz := Lib.hid (show ∀ q, w.heap.size + 2 ≤ ((wr.drewN q).alloc (.cells #[.int .i64 z1, .int .u64 z2] 51)).heap.size from fun q => by simp; omega)
          have HoD := Lib.hid (show ∀ q, ((wr.drewN q).alloc (.cells #[.int .i64 z1, .int .u64 z2] 51)).ownsRow (w.heap.size + 2) 51 2 (.slice Ao acc.length co) acc.length (ptsC acc) from fun q => (own_drewN H.out.own q).alloc _)
          by_cases hc1 : c2 = 1
          · subst hc1
            obtain rfl : n2 = 1 := by omega
            have Hr3 := Lib.hid (Rd.cut0 H.out.r2 (by omega))
            go_wp2
            go_quiet (fail)
            go_wp2
            go_quiet (fail)
            have tok1 : True := trivial
            go_wp2_with (have htok := tok1; at_builtin; refine wpList_append_rd _ rfl (.tmp 35) (.tmp 41) _ rfl (w.heap.size + 2) 51 i0 (.agg #[.int .i64 0, .int .u64 0]) 2 16 Tryz.underlying33 Hi.out Hz0.out Hz1.out Hz2.out rfl (by decide) (.slice Ao acc.length co) acc.length _ rfl (HoD.out _) _ _ 1 1 (ptsC [(z1, z2)]) rfl (HrA.out _) (ptsC_one [(z1, z2)]) hk63 hk8 (Hsz.out _) ?_; intro v' wa hown' hgr hat; clear htok tok1; have HX := Lib.hid (((H.out.drewN _).takeB (by omega) Hr3.out (show _ ≤ 1 - 1 by omega) He.out hown' hgr)); obtain ⟨⟨g1, g2⟩, ⟨g3, g4⟩⟩ := (H.out.drewN _).after hgr; clear hown' hgr hat)
            go_roundw
            case rel => exact HX.out.1
            case measure => exact lt_of_eq_sum2 HX.out.2.1 HX.out.2.2 hL1.out hL2.out (by omega)
          · have Hr3 := Lib.hid (Rd.cut1 H.out.r2 (by omega) (by omega) hc1 rfl)
            have hcI : (1 : Int) ≤ (c2 : Int) := by omega
            go_wp2
            go_quiet (fail)
            go_wp2
            go_quiet (fail)
            have tok1 : True := trivial
            go_wp2_with (have htok := tok1; at_builtin; refine wpList_append_rd _ rfl (.tmp 35) (.tmp 41) _ rfl (w.heap.size + 2) 51 i0 (.agg #[.int .i64 0, .int .u64 0]) 2 16 Tryz.underlying33 Hi.out Hz0.out Hz1.out Hz2.out rfl (by decide) (.slice Ao acc.length co) acc.length _ rfl (HoD.out _) _ _ 1 1 (ptsC [(z1, z2)]) rfl (HrA.out _) (ptsC_one [(z1, z2)]) hk63 hk8 (Hsz.out _) ?_; intro v' wa hown' hgr hat; clear htok tok1; have HX := Lib.hid (((H.out.drewN _).takeB (by omega) Hr3.out (show _ ≤ c2 - 1 by omega) He.out hown' hgr)); obtain ⟨⟨g1, g2⟩, ⟨g3, g4⟩⟩ := (H.out.drewN _).after hgr; clear hown' hgr hat)
            go_roundw
            case rel => exact HX.out.1
            case measure => exact lt_of_eq_sum2 HX.out.2.1 HX.out.2.2 hL1.out hL2.out (by omega)
      · obtain rfl : n2 = 0 := by omega
        obtain ⟨mm, hmm⟩ : ∃ mm, mm = wr.heap.size := ⟨_, rfl⟩
        have hcat : acc ++ (l1 ++ l2) = mergeP a b := by
          rw [← H.out.eq]
          have h0 := H.out.r2.1
          rw [ptsC_len] at h0
          obtain rfl : l2 = [] := List.eq_nil_of_length_eq_zero (by omega)
          rw [List.append_nil, merge_nil]
        have Hcc := Lib.hid (fun q : Nat => mg_cat H.out hws hs hcat q)
        clear hcat hmm
        go_wp2_with fail
        first
          | refine ((Hcc.out 0).mono ?_)
          | skip
        rintro e w' ⟨v, rfl, hown, hbel⟩
        have Hf := Lib.hid (And.intro hown hbel)
        clear hown hbel
        go_wp2
        go_ret
        exact ⟨v, rfl, Hf.out⟩
    · obtain rfl : n1 = 0 := by omega
      obtain ⟨mm, hmm⟩ : ∃ mm, mm = wr.heap.size := ⟨_, rfl⟩
      have hcat : acc ++ (l1 ++ l2) = mergeP a b := by
        rw [← H.out.eq]
        have h0 := H.out.r1.1
        rw [ptsC_len] at h0
        obtain rfl : l1 = [] := List.eq_nil_of_length_eq_zero (by omega)
        rw [List.nil_append, mergeP]
      have Hcc := Lib.hid (fun q : Nat => mg_cat H.out hws hs hcat q)
      clear hcat hmm
      go_wp2_with fail
      first
        | refine ((Hcc.out 0).mono ?_)
        | skip
      rintro e w' ⟨v, rfl, hown, hbel⟩
      have Hf := Lib.hid (And.intro hown hbel)
      clear hown hbel
      go_wp2
      go_ret
      exact ⟨v, rfl, Hf.out⟩
end Go.Proofs.YtfkklcmepcocoaaGreatDoor
