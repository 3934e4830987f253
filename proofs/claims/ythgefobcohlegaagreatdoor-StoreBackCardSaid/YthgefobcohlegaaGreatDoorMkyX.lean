/- chunk.Merge by its contract. -/
import Derived.Test.YthgefobcohlegaaGreatDoorMkrX
import Derived.Test.YthgefobcohlegaaGreatDoorMkwX
import Derived.Test.YthgefobcohlegaaGreatDoorMkqX
import Derived.Test.YthgefobcohlegaaGreatDoorMkbX
import Derived.Test.YthgefobcohlegaaGreatDoorMkxX
namespace Go.Proofs.YthgefobcohlegaaGreatDoor
open Go.RowKit
set_option linter.unusedVariables false

/-- How long the slice is that block g holds. -/
def lenAt (w : World) (g : Nat) : Nat := match w.cell? ⟨g, 0, none⟩ with
  | some (.slice _ n _) => n
  | _ => 0
theorem lenAt_of {w : World} {g n c : Nat} {t : TypeId} {A : Option Addr} (h : Blk w g t #[.slice A n c]) : lenAt w g = n := by
  unfold lenAt
  rw [show w.cell? ⟨g, 0, none⟩ = some (.slice A n c) from h.cell 0]
/-- What holds at a round's head. -/
structure MgR (w : World) (a b : List (Int × Int)) (s : Nat) (o : Value) (wr : World) (A1 : Option Addr) (n1 c1 : Nat) (l1 : List (Int × Int)) (A2 : Option Addr) (n2 c2 : Nat) (l2 : List (Int × Int)) (acc : List (Int × Int)) : Prop where
  b1 : Blk wr w.heap.size 54 #[.slice A1 n1 c1]
  b2 : Blk wr (w.heap.size + 1) 54 #[.slice A2 n2 c2]
  r1 : Rd w w.heap.size 2 A1 n1 (ptsC l1)
  r2 : Rd w w.heap.size 2 A2 n2 (ptsC l2)
  k1 : n1 ≤ c1
  k2 : n2 ≤ c2
  eq : acc ++ mergeP l1 l2 = mergeP a b
  le : acc.length + n1 + n2 ≤ s
  own : wr.ownsRow (w.heap.size + 2) 39 2 o acc.length (ptsC acc)
  bel : Below w.heap.size w wr
def MgE (w : World) (a b : List (Int × Int)) (s : Nat) (o : Value) (wr : World) : Prop := ∃ A1 n1 c1 l1 A2 n2 c2 l2 acc, MgR w a b s o wr A1 n1 c1 l1 A2 n2 c2 l2 acc
theorem ptsC_drop1 {y : Int × Int} {l : List (Int × Int)} : (ptsC (y :: l)).drop (1 * 2) = ptsC l := by simp [ptsC]
theorem Rd.cut1 {w : World} {A : Option Addr} {n c : Nat} {y : Int × Int} {l : List (Int × Int)} (h : Rd w w.heap.size 2 A n (ptsC (y :: l))) (hn : 1 ≤ n) (hc : n ≤ c) (hc1 : c ≠ 1) {b o : Nat} (hA : A = some ⟨b, o, none⟩) :
    Rd w w.heap.size 2 (some ⟨b, o + 2, none⟩) (n - 1) (ptsC l) := by
  have := h.cut (k := 1) hn hc
  rw [if_neg hc1, ptsC_drop1, hA] at this
  simpa [add_at] using this
theorem Rd.cut0 {w : World} {A : Option Addr} {n : Nat} {y : Int × Int} {l : List (Int × Int)} (h : Rd w w.heap.size 2 A n (ptsC (y :: l))) (hn : n = 1) : Rd w w.heap.size 2 A (n - 1) (ptsC l) := by
  subst hn
  have h1 := h.1
  rw [ptsC_len] at h1
  simp at h1
  obtain rfl : l = [] := List.eq_nil_of_length_eq_zero (by omega)
  exact Rd.empty
theorem head_pt {w : World} {A : Option Addr} {n : Nat} {l : List (Int × Int)} (h : Rd w w.heap.size 2 A n (ptsC l)) (hn : 0 < n) : ∃ b o y l', A = some ⟨b, o, none⟩ ∧ b < w.heap.size ∧ l = y :: l' ∧ w.cell? ⟨b, o, none⟩ = some (.int .i64 y.1) ∧ w.cell? ⟨b, o + 1, none⟩ = some (.int .u64 y.2) := by
  obtain ⟨b, o, y, hA, hb, hy, e0, e1⟩ := h.at2 hn
  cases l with
  | nil => simp at hy
  | cons x l' =>
    simp at hy
    subst hy
    exact ⟨b, o, x, l', hA, hb, rfl, by simpa using e0, by simpa using e1⟩
theorem MgR.first {w : World} {a b : List (Int × Int)} {A A' : Option Addr} {n c n' c' : Nat} (hA : Rd w w.heap.size 2 A n (ptsC a)) (hA' : Rd w w.heap.size 2 A' n' (ptsC b)) (hc : n ≤ c) (hc' : n' ≤ c') :
    MgE w a b (n + n') (.slice none 0 0) ((w.alloc (.cells #[.slice A n c] 54)).alloc (.cells #[.slice A' n' c'] 54)) := by
  have h1 : (w.alloc (.cells #[.slice A n c] 54)).heap.size = w.heap.size + 1 := by simp
  refine ⟨A, n, c, a, A', n', c', b, [], (Blk.new w _ _).alloc _, ?_, hA, hA', hc, hc', rfl, by simp, World.ownsRow_nil _ _ _ _, Below.alloc (Below.alloc (Below.refl _ _) (Nat.le_refl _) _) (by simp) _⟩
  have := Blk.new (w.alloc (.cells #[.slice A n c] 54)) 54 #[.slice A' n' c']
  rw [h1] at this
  exact this
/-- The first of a is dropped. -/
theorem MgR.skip {w wr : World} {a b : List (Int × Int)} {s : Nat} {o : Value} {A1 A2 A3 : Option Addr} {n1 c1 n2 c2 c3 : Nat} {y : Int × Int} {l1 l2 acc : List (Int × Int)} (h : MgR w a b s o wr A1 n1 c1 (y :: l1) A2 n2 c2 l2 acc)
    (hr : Rd w w.heap.size 2 A3 (n1 - 1) (ptsC l1)) (hc : n1 - 1 ≤ c3) (he : mergeP (y :: l1) l2 = mergeP l1 l2) : MgE w a b s o (wr.setCell ⟨w.heap.size, 0, none⟩ (.slice A3 (n1 - 1) c3)) ∧ lenAt (wr.setCell ⟨w.heap.size, 0, none⟩ (.slice A3 (n1 - 1) c3)) w.heap.size = n1 - 1 ∧ lenAt (wr.setCell ⟨w.heap.size, 0, none⟩ (.slice A3 (n1 - 1) c3)) (w.heap.size + 1) = n2 := by
  refine ⟨⟨A3, n1 - 1, c3, l1, A2, n2, c2, l2, acc, h.b1.set_ 0 _, h.b2.far (by simp) _, hr, h.r2, hc, h.k2, by rw [← he]; exact h.eq, by have := h.le; omega, own_set h.own ?_ _, Below.setCell h.bel (by simp) _⟩, lenAt_of (h.b1.set_ 0 _), lenAt_of (h.b2.far (p := ⟨w.heap.size, 0, none⟩) (by simp) _)⟩
  intro e
  have := (own_lt h.own _ e.symm).1
  simp at this
  try omega
/-- The first of a goes behind what there is. -/
theorem MgR.takeA {w wr wa : World} {a b : List (Int × Int)} {s : Nat} {o o' : Value} {A1 A2 A3 : Option Addr} {n1 c1 n2 c2 c3 : Nat} {y : Int × Int} {l1 l2 acc : List (Int × Int)} (h : MgR w a b s o wr A1 n1 c1 (y :: l1) A2 n2 c2 l2 acc)
    (hn : 1 ≤ n1) (hr : Rd w w.heap.size 2 A3 (n1 - 1) (ptsC l1)) (hc : n1 - 1 ≤ c3) (he : mergeP (y :: l1) l2 = y :: mergeP l1 l2)
    (hown' : wa.ownsRow (w.heap.size + 2) 39 2 o' (acc.length + 1) (ptsC acc ++ ptsC [y])) (hgr : (wr.alloc (.cells #[.int .i64 y.1, .int .u64 y.2] 39)).grownBy wa o.ownBlock) :
    MgE w a b s o' (wa.setCell ⟨w.heap.size, 0, none⟩ (.slice A3 (n1 - 1) c3)) ∧ lenAt (wa.setCell ⟨w.heap.size, 0, none⟩ (.slice A3 (n1 - 1) c3)) w.heap.size = n1 - 1 ∧ lenAt (wa.setCell ⟨w.heap.size, 0, none⟩ (.slice A3 (n1 - 1) c3)) (w.heap.size + 1) = n2 := by
  have hne : ∀ k, k < w.heap.size + 2 → some k ≠ o.ownBlock := fun k hk e => by have := (own_lt h.own _ e.symm).1; omega
  refine ⟨⟨A3, n1 - 1, c3, l1, A2, n2, c2, l2, acc ++ [y], ((h.b1.alloc _).grown hgr (hne _ (by omega))).set_ 0 _, ((h.b2.alloc _).grown hgr (hne _ (by omega))).far (by simp) _, hr, h.r2, hc, h.k2, by rw [List.append_assoc, List.singleton_append, ← he]; exact h.eq, by have := h.le; rw [List.length_append, List.length_singleton]; omega, own_set (by rw [List.length_append, ptsC_append]; exact hown') ?_ _, Below.setCell (Below.grown (Below.alloc h.bel h.bel.size _) hgr (by have := h.bel.size; simp; omega) (fun g hg => by have := (own_lt h.own g hg).1; omega)) (by simp) _⟩, lenAt_of (((h.b1.alloc _).grown hgr (hne _ (by omega))).set_ 0 _), lenAt_of (((h.b2.alloc _).grown hgr (hne _ (by omega))).far (p := ⟨w.heap.size, 0, none⟩) (by simp) _)⟩
  intro e
  have := (own_lt hown' _ e.symm).1
  simp at this
  try omega
theorem MgR.takeB {w wr wa : World} {a b : List (Int × Int)} {s : Nat} {o o' : Value} {A1 A2 A3 : Option Addr} {n1 c1 n2 c2 c3 : Nat} {y : Int × Int} {l1 l2 acc : List (Int × Int)} (h : MgR w a b s o wr A1 n1 c1 l1 A2 n2 c2 (y :: l2) acc)
    (hn : 1 ≤ n2) (hr : Rd w w.heap.size 2 A3 (n2 - 1) (ptsC l2)) (hc : n2 - 1 ≤ c3) (he : mergeP l1 (y :: l2) = y :: mergeP l1 l2)
    (hown' : wa.ownsRow (w.heap.size + 2) 39 2 o' (acc.length + 1) (ptsC acc ++ ptsC [y])) (hgr : (wr.alloc (.cells #[.int .i64 y.1, .int .u64 y.2] 39)).grownBy wa o.ownBlock) :
    MgE w a b s o' (wa.setCell ⟨w.heap.size + 1, 0, none⟩ (.slice A3 (n2 - 1) c3)) ∧ lenAt (wa.setCell ⟨w.heap.size + 1, 0, none⟩ (.slice A3 (n2 - 1) c3)) w.heap.size = n1 ∧ lenAt (wa.setCell ⟨w.heap.size + 1, 0, none⟩ (.slice A3 (n2 - 1) c3)) (w.heap.size + 1) = n2 - 1 := by
  have hne : ∀ k, k < w.heap.size + 2 → some k ≠ o.ownBlock := fun k hk e => by have := (own_lt h.own _ e.symm).1; omega
  refine ⟨⟨A1, n1, c1, l1, A3, n2 - 1, c3, l2, acc ++ [y], ((h.b1.alloc _).grown hgr (hne _ (by omega))).far (by simp) _, ((h.b2.alloc _).grown hgr (hne _ (by omega))).set_ 0 _, h.r1, hr, h.k1, hc, by rw [List.append_assoc, List.singleton_append, ← he]; exact h.eq, by have := h.le; rw [List.length_append, List.length_singleton]; omega, own_set (by rw [List.length_append, ptsC_append]; exact hown') ?_ _, Below.setCell (Below.grown (Below.alloc h.bel h.bel.size _) hgr (by have := h.bel.size; simp; omega) (fun g hg => by have := (own_lt h.own g hg).1; omega)) (by simp) _⟩, lenAt_of (((h.b1.alloc _).grown hgr (hne _ (by omega))).far (p := ⟨w.heap.size + 1, 0, none⟩) (by simp) _), lenAt_of (((h.b2.alloc _).grown hgr (hne _ (by omega))).set_ 0 _)⟩
  intro e
  have := (own_lt hown' _ e.symm).1
  simp at this
  try omega
theorem MgE.drewN {w wr : World} {a b : List (Int × Int)} {s : Nat} {o : Value} (h : MgE w a b s o wr) (q : Nat) : MgE w a b s o (wr.drewN q) := by
  obtain ⟨A1, n1, c1, l1, A2, n2, c2, l2, acc, h⟩ := h
  exact ⟨A1, n1, c1, l1, A2, n2, c2, l2, acc, h.b1, h.b2, h.r1, h.r2, h.k1, h.k2, h.eq, h.le, h.own, Below.drewN h.bel q⟩
theorem MgR.drewN {w wr : World} {a b : List (Int × Int)} {s : Nat} {o : Value} {A1 A2 : Option Addr} {n1 c1 n2 c2 : Nat} {l1 l2 acc : List (Int × Int)} (h : MgR w a b s o wr A1 n1 c1 l1 A2 n2 c2 l2 acc) (q : Nat) : MgR w a b s o (wr.drewN q) A1 n1 c1 l1 A2 n2 c2 l2 acc :=
  ⟨h.b1, h.b2, h.r1, h.r2, h.k1, h.k2, h.eq, h.le, h.own, Below.drewN h.bel q⟩

theorem MgR.after {w wr wa : World} {a b : List (Int × Int)} {s : Nat} {o : Value} {A1 A2 : Option Addr} {n1 c1 n2 c2 : Nat} {l1 l2 acc : List (Int × Int)} (h : MgR w a b s o wr A1 n1 c1 l1 A2 n2 c2 l2 acc) {ob : Obj} (hgr : (wr.alloc ob).grownBy wa o.ownBlock) :
    (wa.cell? ⟨w.heap.size, 0, none⟩ = some (.slice A1 n1 c1) ∧ wa.frozen? ⟨w.heap.size, 0, none⟩ = false) ∧ (wa.cell? ⟨w.heap.size + 1, 0, none⟩ = some (.slice A2 n2 c2) ∧ wa.frozen? ⟨w.heap.size + 1, 0, none⟩ = false) := by
  have hne : ∀ k, k < w.heap.size + 2 → some k ≠ o.ownBlock := fun k hk e => by have := (own_lt h.own _ e.symm).1; omega
  have k1 := (h.b1.alloc ob).grown hgr (hne _ (by omega))
  have k2 := (h.b2.alloc ob).grown hgr (hne _ (by omega))
  exact ⟨⟨k1.cell 0, k1.frozen 0⟩, ⟨k2.cell 0, k2.frozen 0⟩⟩

theorem lt_of_eq_sum {x y x' y' n1 n2 : Nat} (h1 : x = n1 - 1) (h2 : y = n2) (h3 : x' = n1) (h4 : y' = n2) (h : 0 < n1) : x + y < x' + y' := by omega
theorem lt_of_eq_sum2 {x y x' y' n1 n2 : Nat} (h1 : x = n1) (h2 : y = n2 - 1) (h3 : x' = n1) (h4 : y' = n2) (h : 0 < n2) : x + y < x' + y' := by omega
/-- Behind the loop: the three lists as one. -/
theorem mg_cat {w wr : World} {a b : List (Int × Int)} {s : Nat} {Ao : Option Addr} {co : Nat} {A1 A2 : Option Addr} {n1 c1 n2 c2 : Nat} {l1 l2 acc : List (Int × Int)} (h : MgR w a b s (.slice Ao acc.length co) wr A1 n1 c1 l1 A2 n2 c2 l2 acc) (hws : w.heap.size + 2 ≤ wr.heap.size) (hs : acc.length + n1 + n2 ≤ 20000)
    (hcat : acc ++ (l1 ++ l2) = mergeP a b) (q : Nat) :
    Calls Tryz.prog 88 #[.slice (some ⟨wr.heap.size, 0, none⟩) 3 3] (wr.alloc (.cells #[.slice Ao acc.length co, .slice A1 n1 c1, .slice A2 n2 c2] 54)) fun e w' =>
      ∃ v, e = .returned v ∧ w'.ownsRow w.heap.size 39 2 v (mergeP a b).length (ptsC (mergeP a b)) ∧ Below w.heap.size w w' := by
  have hb := Blk.new wr 54 #[.slice Ao acc.length co, .slice A1 n1 c1, .slice A2 n2 c2]
  have hb2 : Below w.heap.size w (wr.alloc (.cells #[.slice Ao acc.length co, .slice A1 n1 c1, .slice A2 n2 c2] 54)) := Below.alloc h.bel (by omega) _
  have hl1 : l1.length = n1 := by have := h.r1.1; rw [ptsC_len] at this; omega
  have hl2 : l2.length = n2 := by have := h.r2.1; rw [ptsC_len] at this; omega
  have hlen : (mergeP a b).length = acc.length + (n1 + (n2 + 0)) := by rw [← hcat, List.length_append, List.length_append, hl1, hl2]; rfl
  have hr : Rd wr wr.heap.size 2 Ao acc.length (ptsC acc) := Rd.of_own h.own
  refine (concat_any wr.heap.size 3 3 [⟨Ao, acc.length, co, ptsC acc⟩, ⟨A1, n1, c1, ptsC l1⟩, ⟨A2, n2, c2, ptsC l2⟩] _ ⟨rfl, fun _ => ⟨_, _, rfl, hb.lt, fun j u hu => by rw [Nat.zero_add, hb.cell]; simpa [Sl.v] using hu⟩⟩ ?_ (by omega) ?_).mono ?_
  · intro s hs
    simp only [List.mem_cons, List.mem_nil_iff, or_false] at hs
    rcases hs with rfl | rfl | rfl
    · exact ⟨(hr.alloc (Nat.le_refl _) _).more (by simp), ptsC_one acc⟩
    · exact ⟨(h.r1.below hb2).more hb2.size, ptsC_one l1⟩
    · exact ⟨(h.r2.below hb2).more hb2.size, ptsC_one l2⟩
  · show acc.length + (n1 + (n2 + 0)) ≤ 100000
    omega
  · rintro e w' ⟨v, rfl, hown, hbel⟩
    refine ⟨v, rfl, ?_, Below.call hb2 hbel hb2.size⟩
    have e1 : sumS [⟨Ao, acc.length, co, ptsC acc⟩, ⟨A1, n1, c1, ptsC l1⟩, ⟨A2, n2, c2, ptsC l2⟩] = (mergeP a b).length := by rw [hlen]; rfl
    have e2 : ([⟨Ao, acc.length, co, ptsC acc⟩, ⟨A1, n1, c1, ptsC l1⟩, ⟨A2, n2, c2, ptsC l2⟩] : List Sl).flatMap Sl.xs = ptsC (mergeP a b) := by
      rw [← hcat, ptsC_append, ptsC_append]
      simp
    rw [e1, e2] at hown
    exact own_base hown (by simp; omega)

set_option maxRecDepth 100000 in
set_option maxHeartbeats 8000000 in
theorem merge_any (A : Option Addr) (n c : Nat) (A' : Option Addr) (n' c' : Nat) (a b : List (Int × Int)) (w : World) (hA : Rd w w.heap.size 2 A n (ptsC a)) (hA' : Rd w w.heap.size 2 A' n' (ptsC b)) (hn : n ≤ 10000) (hn' : n' ≤ 10000) (hc : n ≤ c) (hc' : n' ≤ c') :
    Calls Tryz.prog 60 #[.slice A n c, .slice A' n' c'] w fun e w' => ∃ v, e = .returned v ∧ w'.ownsRow w.heap.size 39 2 v (mergeP a b).length (ptsC (mergeP a b)) ∧ Below w.heap.size w w' := by
  obtain ⟨i0, hi, hz0, hz1, hz2⟩ := info_parts infoPt
  have Hi := Lib.hid hi; have Hz0 := Lib.hid hz0; have Hz1 := Lib.hid hz1; have Hz2 := Lib.hid hz2
  have H0 := Lib.hid (MgR.first hA hA' hc hc')
  clear hi hz0 hz1 hz2 hA hA'
  go_enter Tryz.func60, Tryz.ntmps60
  go_wp2
  go_loopw [5] (fun o wr => MgE w a b (n + n') o wr) (fun _ wr => lenAt wr w.heap.size + lenAt wr (w.heap.size + 1))
  case atStart => exact H0.out
  case round =>
    clear H0
    obtain ⟨A1, n1, c1, l1, A2, n2, c2, l2, acc, h⟩ := hrel
    obtain ⟨Ao, co, rfl, _, _, _⟩ := own_form h.own
    have H := Lib.hid h
    have hL1 := Lib.hid (lenAt_of h.b1); have hL2 := Lib.hid (lenAt_of h.b2)
    have a1 : wr.cell? ⟨w.heap.size, 0, none⟩ = some (.slice A1 n1 c1) := h.b1.cell 0
    have a2 : wr.cell? ⟨w.heap.size + 1, 0, none⟩ = some (.slice A2 n2 c2) := h.b2.cell 0
    have f1 : wr.frozen? ⟨w.heap.size, 0, none⟩ = false := h.b1.frozen 0
    have f2 : wr.frozen? ⟨w.heap.size + 1, 0, none⟩ = false := h.b2.frozen 0
    have hs : acc.length + n1 + n2 ≤ 20000 := by have := h.le; omega
    have hk1 := h.k1
    have hk2 := h.k2
    have hws : w.heap.size + 2 ≤ wr.heap.size := by have := h.b2.lt; omega
    clear h
    by_cases h1 : 0 < n1
    · by_cases h2 : 0 < n2
      · obtain ⟨b1, o1, y, l1', rfl, hb1, rfl, e0, e1⟩ := head_pt H.out.r1 h1
        obtain ⟨b2, o2, z, l2', rfl, hb2, rfl, e2, e3⟩ := head_pt H.out.r2 h2
        have x0 : wr.cell? ⟨b1, o1, none⟩ = some (.int .i64 y.1) := (H.out.bel.cell (p := ⟨b1, o1, none⟩) hb1).trans e0
        have x1 : wr.cell? ⟨b1, o1 + 1, none⟩ = some (.int .u64 y.2) := (H.out.bel.cell (p := ⟨b1, o1 + 1, none⟩) hb1).trans e1
        have x2 : wr.cell? ⟨b2, o2, none⟩ = some (.int .i64 z.1) := (H.out.bel.cell (p := ⟨b2, o2, none⟩) hb2).trans e2
        have x3 : wr.cell? ⟨b2, o2 + 1, none⟩ = some (.int .u64 z.2) := (H.out.bel.cell (p := ⟨b2, o2 + 1, none⟩) hb2).trans e3
        obtain ⟨y1, y2⟩ := y
        obtain ⟨z1, z2⟩ := z
        simp only at x0 x1 x2 x3
        clear e0 e1 e2 e3
        have hk63 : acc.length + 1 ≤ maxLen := by unfold maxLen; omega
        have hk8 : (acc.length + 1) * 16 ≤ 140737488355328 := by omega
        rcases Int.lt_trichotomy y1 z1 with hlt | heq | hgt
        · have q1 : (y1 == z1) = false := by simp; omega
          have q2 : decide (z1 < y1) = false := by simp; omega
          have He := Lib.hid (show mergeP ((y1, y2) :: l1') ((z1, z2) :: l2') = (y1, y2) :: mergeP l1' ((z1, z2) :: l2') from merge_lt hlt)
          have HrA := Lib.hid (show ∀ q, Rd ((wr.drewN q).alloc (.cells #[.int .i64 y1, .int .u64 y2] 39)) ((wr.drewN q).alloc (.cells #[.int .i64 y1, .int .u64 y2] 39)).heap.size 2 (some ⟨wr.heap.size, 0, none⟩) 1 (ptsC [(y1, y2)]) from fun q => Rd.one2 (wr.drewN q) 39 (y1, y2))
          have Hsz := Lib.hid (show ∀ q, w.heap.size + 2 ≤ ((wr.drewN q).alloc (.cells #[.int .i64 y1, .int .u64 y2] 39)).heap.size from fun q => by simp; omega)
          have HoD := Lib.hid (show ∀ q, ((wr.drewN q).alloc (.cells #[.int .i64 y1, .int .u64 y2] 39)).ownsRow (w.heap.size + 2) 39 2 (.slice Ao acc.length co) acc.length (ptsC acc) from fun q => (own_drewN H.out.own q).alloc _)
          by_cases hc1 : c1 = 1
          · subst hc1
            obtain rfl : n1 = 1 := by omega
            have Hr3 := Lib.hid (Rd.cut0 H.out.r1 (by omega))
            go_wp2
            go_quiet (fail)
            go_wp2
            go_quiet (fail)
            have tok1 : True := trivial
            go_wp2_with (have htok := tok1; at_builtin; refine wpList_append_rd _ rfl (.tmp 35) (.tmp 41) _ rfl (w.heap.size + 2) 39 i0 (.agg #[.int .i64 0, .int .u64 0]) 2 16 Tryz.underlying54 Hi.out Hz0.out Hz1.out Hz2.out rfl (by decide) (.slice Ao acc.length co) acc.length _ rfl (HoD.out _) _ _ 1 1 (ptsC [(y1, y2)]) rfl (HrA.out _) (ptsC_one [(y1, y2)]) hk63 hk8 (Hsz.out _) ?_; intro v' wa hown' hgr hat; clear htok tok1; have HX := Lib.hid (((H.out.drewN _).takeA (by omega) Hr3.out (show _ ≤ 1 - 1 by omega) He.out hown' hgr)); obtain ⟨⟨g1, g2⟩, ⟨g3, g4⟩⟩ := (H.out.drewN _).after hgr; clear hown' hgr hat)
            go_roundw
            case rel => exact HX.out.1
            case measure => exact lt_of_eq_sum HX.out.2.1 HX.out.2.2 hL1.out hL2.out (by omega)
          · have Hr3 := Lib.hid (Rd.cut1 H.out.r1 (by omega) (by omega) hc1 rfl)
            have hcI : (1 : Int) ≤ (c1 : Int) := by omega
            go_wp2
            go_quiet (fail)
            go_wp2
            go_quiet (fail)
            have tok1 : True := trivial
            go_wp2_with (have htok := tok1; at_builtin; refine wpList_append_rd _ rfl (.tmp 35) (.tmp 41) _ rfl (w.heap.size + 2) 39 i0 (.agg #[.int .i64 0, .int .u64 0]) 2 16 Tryz.underlying54 Hi.out Hz0.out Hz1.out Hz2.out rfl (by decide) (.slice Ao acc.length co) acc.length _ rfl (HoD.out _) _ _ 1 1 (ptsC [(y1, y2)]) rfl (HrA.out _) (ptsC_one [(y1, y2)]) hk63 hk8 (Hsz.out _) ?_; intro v' wa hown' hgr hat; clear htok tok1; have HX := Lib.hid (((H.out.drewN _).takeA (by omega) Hr3.out (show _ ≤ c1 - 1 by omega) He.out hown' hgr)); obtain ⟨⟨g1, g2⟩, ⟨g3, g4⟩⟩ := (H.out.drewN _).after hgr; clear hown' hgr hat)
            go_roundw
            case rel => exact HX.out.1
            case measure => exact lt_of_eq_sum HX.out.2.1 HX.out.2.2 hL1.out hL2.out (by omega)
        · subst heq
          have He := Lib.hid (show mergeP ((y1, y2) :: l1') ((y1, z2) :: l2') = mergeP l1' ((y1, z2) :: l2') from merge_eq rfl)
          by_cases hc1 : c1 = 1
          · subst hc1
            obtain rfl : n1 = 1 := by omega
            have Hr3 := Lib.hid (Rd.cut0 H.out.r1 (by omega))
            have HX := Lib.hid (fun q => (H.out.drewN q).skip Hr3.out (show _ ≤ 1 - 1 by omega) He.out)
            go_wp2
            go_quiet (fail)
            go_wp2
            go_roundw
            case rel => exact (HX.out _).1
            case measure => exact lt_of_eq_sum (HX.out _).2.1 (HX.out _).2.2 hL1.out hL2.out (by omega)
          · have Hr3 := Lib.hid (Rd.cut1 H.out.r1 (by omega) (by omega) hc1 rfl)
            have hcI : (1 : Int) ≤ (c1 : Int) := by omega
            have HX := Lib.hid (fun q => (H.out.drewN q).skip Hr3.out (show _ ≤ c1 - 1 by omega) He.out)
            go_wp2
            go_quiet (fail)
            go_wp2
            go_roundw
            case rel => exact (HX.out _).1
            case measure => exact lt_of_eq_sum (HX.out _).2.1 (HX.out _).2.2 hL1.out hL2.out (by omega)
        · have q1 : (y1 == z1) = false := by simp; omega
          have q2 : decide (z1 < y1) = true := by simp; omega
          have He := Lib.hid (show mergeP ((y1, y2) :: l1') ((z1, z2) :: l2') = (z1, z2) :: mergeP ((y1, y2) :: l1') l2' from merge_gt hgt)
          have HrA := Lib.hid (show ∀ q, Rd ((wr.drewN q).alloc (.cells #[.int .i64 z1, .int .u64 z2] 39)) ((wr.drewN q).alloc (.cells #[.int .i64 z1, .int .u64 z2] 39)).heap.size 2 (some ⟨wr.heap.size, 0, none⟩) 1 (ptsC [(z1, z2)]) from fun q => Rd.one2 (wr.drewN q) 39 (z1, z2))
          have Hsz := Lib.hid (show ∀ q, w.heap.size + 2 ≤ ((wr.drewN q).alloc (.cells #[.int .i64 z1, .int .u64 z2] 39)).heap.size from fun q => by simp; omega)
          have HoD := Lib.hid (show ∀ q, ((wr.drewN q).alloc (.cells #[.int .i64 z1, .int .u64 z2] 39)).ownsRow (w.heap.size + 2) 39 2 (.slice Ao acc.length co) acc.length (ptsC acc) from fun q => (own_drewN H.out.own q).alloc _)
          by_cases hc1 : c2 = 1
          · subst hc1
            obtain rfl : n2 = 1 := by omega
            have Hr3 := Lib.hid (Rd.cut0 H.out.r2 (by omega))
            go_wp2
            go_quiet (fail)
            go_wp2
            go_quiet (fail)
            have tok1 : True := trivial
            go_wp2_with (have htok := tok1; at_builtin; refine wpList_append_rd _ rfl (.tmp 35) (.tmp 41) _ rfl (w.heap.size + 2) 39 i0 (.agg #[.int .i64 0, .int .u64 0]) 2 16 Tryz.underlying54 Hi.out Hz0.out Hz1.out Hz2.out rfl (by decide) (.slice Ao acc.length co) acc.length _ rfl (HoD.out _) _ _ 1 1 (ptsC [(z1, z2)]) rfl (HrA.out _) (ptsC_one [(z1, z2)]) hk63 hk8 (Hsz.out _) ?_; intro v' wa hown' hgr hat; clear htok tok1; have HX := Lib.hid (((H.out.drewN _).takeB (by omega) Hr3.out (show _ ≤ 1 - 1 by omega) He.out hown' hgr)); obtain ⟨⟨g1, g2⟩, ⟨g3, g4⟩⟩ := (H.out.drewN _).after hgr; clear hown' hgr hat)
            go_roundw
            case rel => exact HX.out.1
            case measure => exact lt_of_eq_sum2 HX.out.2.1 HX.out.2.2 hL1.out hL2.out (by omega)
          · have Hr3 := Lib.hid (Rd.cut1 H.out.r2 (by omega) (by omega) hc1 rfl)
            have hcI : (1 : Int) ≤ (c2 : Int) := by omega
            go_wp2
            go_quiet (fail)
            go_wp2
            go_quiet (fail)
            have tok1 : True := trivial
            go_wp2_with (have htok := tok1; at_builtin; refine wpList_append_rd _ rfl (.tmp 35) (.tmp 41) _ rfl (w.heap.size + 2) 39 i0 (.agg #[.int .i64 0, .int .u64 0]) 2 16 Tryz.underlying54 Hi.out Hz0.out Hz1.out Hz2.out rfl (by decide) (.slice Ao acc.length co) acc.length _ rfl (HoD.out _) _ _ 1 1 (ptsC [(z1, z2)]) rfl (HrA.out _) (ptsC_one [(z1, z2)]) hk63 hk8 (Hsz.out _) ?_; intro v' wa hown' hgr hat; clear htok tok1; have HX := Lib.hid (((H.out.drewN _).takeB (by omega) Hr3.out (show _ ≤ c2 - 1 by omega) He.out hown' hgr)); obtain ⟨⟨g1, g2⟩, ⟨g3, g4⟩⟩ := (H.out.drewN _).after hgr; clear hown' hgr hat)
            go_roundw
            case rel => exact HX.out.1
            case measure => exact lt_of_eq_sum2 HX.out.2.1 HX.out.2.2 hL1.out hL2.out (by omega)
      · obtain rfl : n2 = 0 := by omega
        obtain ⟨mm, hmm⟩ : ∃ mm, mm = wr.heap.size := ⟨_, rfl⟩
        have hcat : acc ++ (l1 ++ l2) = mergeP a b := by
          rw [← H.out.eq]
          have h0 := H.out.r2.1
          rw [ptsC_len] at h0
          obtain rfl : l2 = [] := List.eq_nil_of_length_eq_zero (by omega)
          rw [List.append_nil, merge_nil]
        have Hcc := Lib.hid (fun q : Nat => mg_cat H.out hws hs hcat q)
        clear hcat hmm
        go_wp2_with fail
        first
          | refine ((Hcc.out 0).mono ?_)
          | skip
        rintro e w' ⟨v, rfl, hown, hbel⟩
        have Hf := Lib.hid (And.intro hown hbel)
        clear hown hbel
        go_wp2
        go_ret
        exact ⟨v, rfl, Hf.out⟩
    · obtain rfl : n1 = 0 := by omega
      obtain ⟨mm, hmm⟩ : ∃ mm, mm = wr.heap.size := ⟨_, rfl⟩
      have hcat : acc ++ (l1 ++ l2) = mergeP a b := by
        rw [← H.out.eq]
        have h0 := H.out.r1.1
        rw [ptsC_len] at h0
        obtain rfl : l1 = [] := List.eq_nil_of_length_eq_zero (by omega)
        rw [List.nil_append, mergeP]
      have Hcc := Lib.hid (fun q : Nat => mg_cat H.out hws hs hcat q)
      clear hcat hmm
      go_wp2_with fail
      first
        | refine ((Hcc.out 0).mono ?_)
        | skip
      rintro e w' ⟨v, rfl, hown, hbel⟩
      have Hf := Lib.hid (And.intro hown hbel)
      clear hown hbel
      go_wp2
      go_ret
      exact ⟨v, rfl, Hf.out⟩
end Go.Proofs.YthgefobcohlegaaGreatDoor

namespace Go.Proofs.YthgefobcohlegaaGreatDoor
open Go.RowKit Go.Maps
set_option linter.unusedVariables false

/-- The cells of element k of a slice whose elements have four cells. -/
theorem Rd.at4 {w : World} {B n : Nat} {A : Option Addr} {α : Type} {f g p r : α → Value} {ys : List α} (h : Rd w B 4 A n (ys.flatMap fun y => [f y, g y, p y, r y])) {k : Nat} (hk : k < n) :
    ∃ b o y, A = some ⟨b, o, none⟩ ∧ b < B ∧ ys[k]? = some y ∧ w.cell? ⟨b, o + k * 4, none⟩ = some (f y) ∧ w.cell? ⟨b, o + k * 4 + 1, none⟩ = some (g y) ∧ w.cell? ⟨b, o + k * 4 + 2, none⟩ = some (p y) ∧ w.cell? ⟨b, o + k * 4 + 3, none⟩ = some (r y) := by
  obtain ⟨b, o, e, hb, hc⟩ := h.2 (by omega)
  have hl : k < ys.length := by have := h.1; rw [flat_len _ 4 (fun _ => rfl)] at this; omega
  have hy : ys[k]? = some ys[k] := List.getElem?_eq_getElem hl
  have hg := fun j (hj : j < 4) => flat_get (fun y => [f y, g y, p y, r y]) 4 (fun _ => rfl) ys k j ys[k] hy hj
  refine ⟨b, o, ys[k], e, hb, hy, hc (k * 4) _ (hg 0 (by omega)), ?_, ?_, ?_⟩
  · rw [Nat.add_assoc]; exact hc (k * 4 + 1) _ (hg 1 (by omega))
  · rw [Nat.add_assoc]; exact hc (k * 4 + 2) _ (hg 2 (by omega))
  · rw [Nat.add_assoc]; exact hc (k * 4 + 3) _ (hg 3 (by omega))
/-- What walks of a store ask of the world. -/
structure StW (es : Nat → Addr) (B : Nat) (w : World) : Prop where
  wal : WalW es B w
  bk : SBk es B w
  ft : FtS es B w
  b0 : B ≤ w.heap.size
theorem StW.below {es : Nat → Addr} {B C : Nat} {w w' : World} (h : StW es B w) (hb : Below C w w') (hC : B ≤ C) : StW es B w' :=
  ⟨h.wal.below hb hC, h.bk.below hb hC, h.ft.below hb hC, Nat.le_trans h.b0 hb.size⟩
theorem StW.blk {es : Nat → Addr} {B : Nat} {w : World} (h : StW es B w) : BlkW es B w := ⟨h.bk, h.wal.tab, h.wal.tablt, h.b0⟩
theorem ptsOf_len {rows : List Rw} {s : Bs} {m : Nat} (h : ∀ r ∈ rows, r.2.length ≤ m) : (ptsOf rows s).length ≤ m := by
  unfold ptsOf
  split
  · rename_i r hr
    exact h r (List.mem_of_find?_eq_some hr)
  · exact Nat.zero_le _
theorem Back.pts120 {fr sp : Int} {rows : List Rw} (h : Back fr sp rows) : ∀ r ∈ rows, r.2.length ≤ 120 := fun r hr => (ptF_zero.1 (h.ok.1 r hr).2.1).1
theorem betL_len (f t : Int) (l : List (Int × Int)) : (betL f t l).length ≤ l.length := List.length_filter_le _ _
/-- The points of a series in some blocks. -/
def accB (l : List BkV) (s : Bs) (f t : Int) : List (Int × Int) := l.foldl (fun acc b => mergeP acc (betL f t (ptsOf b.rows s))) []
theorem accB_snoc (l : List BkV) (b : BkV) (s : Bs) (f t : Int) : accB (l ++ [b]) s f t = mergeP (accB l s f t) (betL f t (ptsOf b.rows s)) := by unfold accB; rw [List.foldl_append]; rfl
theorem accB_len (s : Bs) (f t : Int) : ∀ (l : List BkV), (∀ b ∈ l, ∀ r ∈ b.rows, r.2.length ≤ 120) → (accB l s f t).length ≤ 120 * l.length := by
  intro l
  induction l using snoc_ind with
  | h0 => intro _; exact Nat.zero_le _
  | h1 l b ih =>
    intro h
    have h1 := ih fun c hc => h c (List.mem_append_left _ hc)
    have h2 := Nat.le_trans (betL_len f t _) (ptsOf_len (s := s) (h b (List.mem_append_right _ (List.mem_singleton.2 rfl))))
    have h3 := merge_len (accB l s f t) (betL f t (ptsOf b.rows s))
    rw [accB_snoc, List.length_append, List.length_singleton]
    omega
theorem accB_eq (l : List BkV) (s : Bs) (f t : Int) : (l.map fun b => ((b.fr, b.sp), b.rows)).foldl (fun acc b => mergeP acc (betL f t (ptsOf b.2 s))) [] = accB l s f t := by
  unfold accB
  rw [List.foldl_map]
set_option maxRecDepth 100000 in
set_option maxHeartbeats 4000000 in
theorem spoints_any {es : Nat → Addr} {B : Nat} {q hb mb : Nat} {D : DataW Unit} {L : List HLn} {dq : Nat} {dv bv : Value} {Bl : List BkV} {S : StM} (s : Bs) (f t : Int) (w : World) (hW : StW es B w) (h : StAt w q hb mb D L dq dv bv Bl S) (hO : HdOk L) (hB40 : Bl.length ≤ 40) (hs : s.length ≤ 100000) :
    Calls Tryz.prog 32 #[.pointer (some ⟨q, 0, none⟩), .string (B8 s), .int .i64 f, .int .i64 t] w fun e w' => ∃ v, e = .returned (.tuple #[v, .nilIface]) ∧ w'.ownsRow w.heap.size 39 2 v (ptsS S s f t).length (ptsC (ptsS S s f t)) ∧ Below w.heap.size w w' := by
  have hfin : ptsS S s f t = mergeP (accB Bl s f t) (hPoints (absL L) s f t) := by
    unfold ptsS
    rw [← h.bm, ← h.ab, accB_eq]
  rw [hfin]
  clear hfin
  have z4 : w.cell? ⟨q, 4, none⟩ = some bv := h.hd.cell 4
  obtain ⟨Ab, cb, hbv, _, _, hrb⟩ := own_form h.bl.own
  rw [hbv] at z4
  have Hat := Lib.hid (fun W (hb : Below w.heap.size w W) (k : Nat) (hk : k < Bl.length) => (hrb.below hb).at4 hk)
  have Hac := Lib.hid (fun W (hb' : Below w.heap.size w W) => show W.cell? ⟨q, 0, none⟩ = some (.pointer (some ⟨hb, 0, none⟩)) from (h.below hb').hd.cell 0)
  have Hbk := Lib.hid (fun W (hb : Below w.heap.size w W) b (hm : b ∈ Bl) => ((h.below hb).bl.bk b hm))
  have Hpt := Lib.hid (fun W (hb : Below w.heap.size w W) => hpoints_any s f t W hs (h.below hb).he (fun y hy => Nat.le_trans (hO.pts y hy) (by decide)))
  have Hhl := Lib.hid (show (hPoints (absL L) s f t).length ≤ 10000 from by
    unfold hPoints
    split
    · rename_i x hx
      obtain ⟨y, hy, rfl⟩ := List.mem_map.1 (hFind_mem hx).1
      exact Nat.le_trans (betL_len _ _ _) (Nat.le_trans (hO.pts y hy) (by decide))
    · exact Nat.zero_le _)
  have HW := Lib.hid (fun W (hb : Below w.heap.size w W) => hW.below hb hW.b0)
  have Hal := Lib.hid (fun k (hk : k ≤ 40) => show (accB (Bl.take k) s f t).length ≤ 10000 from by
    have h1 := accB_len s f t (Bl.take k) (fun b hb => (h.bl.bk b (List.mem_of_mem_take hb)).ok.pts120)
    have h2 : (Bl.take k).length ≤ k := List.length_take_le _ _
    have h3 : 120 * (Bl.take k).length ≤ 120 * 40 := Nat.mul_le_mul_left _ (Nat.le_trans h2 hk)
    omega)
  clear h hO hbv hrb hW
  obtain ⟨H, hH⟩ : ∃ H, H = hPoints (absL L) s f t := ⟨_, rfl⟩
  rw [← hH] at Hpt Hhl ⊢
  clear hH
  obtain ⟨n, hn⟩ : ∃ n, n = Bl.length := ⟨_, rfl⟩
  rw [← hn] at z4 Hat hB40
  have Hn := Lib.hid hn
  clear hn
  have Hbp := Lib.hid (fun W (hb : Below w.heap.size w W) (b : BkV) (hm : b ∈ Bl) =>
    bpts_any (es := es) (B := B) b.fr b.sp b.A b.C b.rows.length b.a b.rows.length b.c (nmsOf (encR b.rows)) (chsOf (encR b.rows)) s f t W (HW.out W hb).bk (HW.out W hb).wal.tab (HW.out W hb).wal.tablt (HW.out W hb).b0
      (Hbk.out W hb b hm).arg.a (Hbk.out W hb b hm).arg.k (Hbk.out W hb b hm).arg.nl (Hbk.out W hb b hm).arg.kl)
  obtain ⟨sn, hsn⟩ : ∃ sn, sn = B8 s := ⟨_, rfl⟩
  rw [← hsn] at Hbp Hpt ⊢
  clear hsn
  go_enter Tryz.func32, Tryz.ntmps32
  go_wp2
  go_loopw [10, 20] (fun ov iv wr => ∃ (k : Nat), k ≤ n ∧ iv = .int .i64 k ∧ wr.ownsRow w.heap.size 39 2 ov (accB (Bl.take k) s f t).length (ptsC (accB (Bl.take k) s f t)) ∧ Below w.heap.size w wr) (fun _ iv _ => n - (intOf iv).toNat)
  case atStart => exact ⟨0, Nat.zero_le _, rfl, World.ownsRow_nil _ _ _ _, Below.refl _ _⟩
  case round =>
    obtain ⟨k, hk, rfl, hown, hbr⟩ := hrel
    obtain ⟨Ao, co, rfl, hco, _, hro⟩ := own_form hown
    have HBr := Lib.hid hbr; have Hown := Lib.hid hown; have Hro := Lib.hid hro
    have Hco := Lib.hid hco
    clear hown hro hco
    obtain ⟨P, hP⟩ : ∃ P, P = accB (Bl.take k) s f t := ⟨_, rfl⟩
    have Hpl := Lib.hid (show P.length ≤ 10000 by rw [hP]; exact Hal.out k (by omega))
    rw [← hP] at Hown Hro Hco ⊢
    have HP := Lib.hid hP
    clear hP
    obtain ⟨p, hp⟩ : ∃ p, p = P.length := ⟨_, rfl⟩
    rw [← hp] at Hown Hro Hco Hpl ⊢
    have Hp := Lib.hid hp
    clear hp
    by_cases hkn : k < n
    · have hkn' : (k : Int) < n := by omega
      obtain ⟨b0, o0, b, hA0, had, hbk, x0, x1, x2, x3⟩ := Hat.out _ hbr k hkn
      subst hA0
      have hmem := List.mem_of_getElem? hbk
      have hbd := (Hbk.out _ hbr b hmem).ok
      have hba : Below w.heap.size w (wr.alloc (.cells #[.int .i64 b.fr, .int .i64 b.sp, .slice b.A b.rows.length b.a, .slice b.C b.rows.length b.c] 85)) := Below.alloc hbr hbr.size _
      have Hcl := Lib.hid (Hbp.out _ hba b hmem)
      rw [hbd.rd] at Hcl
      have Hsn := Lib.hid (show accB (Bl.take (k + 1)) s f t = mergeP P (betL f t (ptsOf b.rows s)) by rw [take_snoc hbk, accB_snoc, HP.out])
      have Hq := Lib.hid (show (betL f t (ptsOf b.rows s)).length ≤ 10000 from Nat.le_trans (betL_len _ _ _) (Nat.le_trans (ptsOf_len hbd.pts120) (by decide)))
      have HBa := Lib.hid hba
      have hba1 : Below wr.heap.size wr (wr.alloc (.cells #[.int .i64 b.fr, .int .i64 b.sp, .slice b.A b.rows.length b.a, .slice b.C b.rows.length b.c] 85)) := Below.alloc (Below.refl _ _) (Nat.le_refl _) _
      have HBa1 := Lib.hid hba1
      obtain ⟨Q, hQ⟩ : ∃ Q, Q = betL f t (ptsOf b.rows s) := ⟨_, rfl⟩
      rw [← hQ] at Hcl Hsn Hq
      obtain ⟨rl, hrl⟩ : ∃ rl, rl = b.rows.length := ⟨_, rfl⟩
      rw [← hrl] at x2 x3 Hcl HBa HBa1
      clear hbr hbk hmem hbd hba hba1 hQ hrl had
      go_wp2_with fail
      refine Hcl.out.mono ?_
      rintro e w2 ⟨v2, u2, rfl, hev, _, hown2, hb2⟩
      obtain rfl := hev.zero rfl
      have hown2 := hown2 rfl
      obtain ⟨Aq, cq, rfl, hcq, _, hrq⟩ := own_form hown2
      have HB2 := Lib.hid (Below.call HBa.out hb2 HBa.out.size)
      have hb21 : Below wr.heap.size wr w2 := Below.call HBa1.out hb2 HBa1.out.size
      have Hmg := Lib.hid (merge_any Ao p co Aq Q.length cq P Q w2 ((Hro.out.below hb21).more hb21.size) hrq Hpl.out Hq.out Hco.out hcq)
      obtain ⟨ql, hql⟩ : ∃ ql, ql = Q.length := ⟨_, rfl⟩
      rw [← hql] at Hmg ⊢
      clear hev hown2 hb2 hrq hcq hql hb21
      go_wp2_with fail
      refine Hmg.out.mono ?_
      rintro e w3 ⟨v3, rfl, hown3, hb3⟩
      have HB3 := Lib.hid (Below.call HB2.out hb3 HB2.out.size)
      have HO3 := Lib.hid (own_base hown3 HB2.out.size)
      clear hown3 hb3
      go_wp2
      go_roundw
      case rel => exact ⟨k + 1, by omega, by go_num, by rw [Hsn.out]; exact HO3.out, HB3.out⟩
      case measure => simp [intOf]; omega
    · obtain rfl : k = n := by omega
      have hkn' : ¬ (k : Int) < k := by omega
      have He := Lib.hid (show Bl.take k = Bl from List.take_of_length_le (by rw [Hn.out]; exact Nat.le_refl _))
      have z0 := Hac.out _ hbr
      have Hpt2 := Lib.hid (Hpt.out _ hbr)
      obtain ⟨hl, hhl⟩ : ∃ hl, hl = H.length := ⟨_, rfl⟩
      have Hhe := Lib.hid hhl
      rw [← hhl] at Hpt2
      clear hbr hhl
      go_wp2_with fail
      refine Hpt2.out.mono ?_
      rintro e w2 ⟨v2, rfl, hown2, hb2⟩
      obtain ⟨Aq, cq, rfl, hcq, _, hrq⟩ := own_form hown2
      have HB2 := Lib.hid (Below.call HBr.out hb2 HBr.out.size)
      have Hmg := Lib.hid (merge_any Ao p co Aq hl cq P H w2 ((Hro.out.below hb2).more hb2.size) hrq Hpl.out (by rw [Hhe.out]; exact Hhl.out) Hco.out hcq)
      clear hown2 hb2 hrq hcq
      go_wp2_with fail
      refine Hmg.out.mono ?_
      rintro e w3 ⟨v3, rfl, hown3, hb3⟩
      have HB3 := Lib.hid (Below.call HB2.out hb3 HB2.out.size)
      have HO3 := Lib.hid (own_base hown3 HB2.out.size)
      obtain ⟨A3, c3, rfl, _, _, _⟩ := own_form hown3
      clear hown3 hb3
      go_wp2
      go_ret2
      refine ⟨_, rfl, ?_, HB3.out⟩
      rw [← (HP.out.trans (by rw [He.out]) : P = accB Bl s f t)]
      exact HO3.out
end Go.Proofs.YthgefobcohlegaaGreatDoor

namespace Go.Proofs.YthgefobcohlegaaGreatDoor
open Go.RowKit Go.Maps
set_option linter.unusedVariables false

theorem hCount_ge {A : List HA} {x : HA} (h : x ∈ A) : x.2.1.length ≤ hCount A := by
  induction A with
  | nil => cases h
  | cons a A ih =>
    rw [hCount_cons]
    rcases List.mem_cons.1 h with rfl | h
    · omega
    · have := ih h; omega
theorem EV.nilc {es : Nat → Addr} {B : Nat} {W : World} {c : Nat × Int} (h : EV es B W .nilIface c) : c = (0, -1) := by
  rcases h with ⟨h, _⟩ | ⟨k, _, _, h⟩ | ⟨k, pb, t, _, _, h, _⟩
  · exact h
  · obtain ⟨t, p, e⟩ : ∃ t p, sentV (es k) = Value.iface t p := ⟨_, _, rfl⟩
    rw [e] at h; cases h
  · obtain ⟨t, p, e⟩ : ∃ t p, faultV ⟨pb, 0, none⟩ = Value.iface t p := ⟨_, _, rfl⟩
    rw [e] at h; cases h
/-- Plain bounds of a store. -/
structure SOk (S : StM) : Prop where
  n60 : S.A.length ≤ 60
  nm : ∀ x ∈ S.A, x.1.length ≤ 200
  pts : ∀ x ∈ S.A, x.2.1.length ≤ 9000
  tk : ∀ x ∈ S.A, ∀ p ∈ x.2.1, 0 ≤ p.1 ∧ p.1 ≤ 1099511627776
  vl : ∀ x ∈ S.A, ∀ p ∈ x.2.1, 0 ≤ p.2 ∧ p.2 < 18446744073709551616
  b40 : S.B.length ≤ 40
  sp : 1 ≤ S.sp ∧ S.sp ≤ 100000
  kp : 1 ≤ S.kp ∧ S.kp ≤ 40
  db : S.d.b.length ≤ 65536
theorem SOk.hd {S : StM} {L : List HLn} (h : SOk S) (e : absL L = S.A) : HdOk L := by
  have hm : ∀ x ∈ L, (x.nm, x.pts, x.last) ∈ S.A := fun x hx => by rw [← e]; exact List.mem_map.2 ⟨x, hx, rfl⟩
  exact ⟨by have := h.n60; rw [← e] at this; unfold absL at this; rwa [List.length_map] at this, fun x hx => h.nm _ (hm x hx), fun x hx => h.pts _ (hm x hx), fun x hx => h.tk _ (hm x hx)⟩
theorem StAt.bl40 {w : World} {q hb mb : Nat} {D : DataW Unit} {L : List HLn} {dq : Nat} {dv bv : Value} {Bl : List BkV} {S : StM} (h : StAt w q hb mb D L dq dv bv Bl S) (hO : SOk S) : Bl.length ≤ 40 := by
  have := hO.b40
  rw [← h.bm, List.length_map] at this
  exact this
/-- A store; the blocks of memory that it lies in; all of them from B on. -/
def StI (B : Nat) (w : World) (q dq : Nat) (G : Nat → Prop) (S : StM) : Prop :=
  ∃ hb mb D L dv bv Bl, StAt w q hb mb D L dq dv bv Bl S ∧ G = StS q hb mb L dq dv bv Bl ∧ ∀ k, G k → B ≤ k
theorem StI.below {B : Nat} {w w' : World} {q dq : Nat} {G : Nat → Prop} {S : StM} (h : StI B w q dq G S) (hb : Below w.heap.size w w') : StI B w' q dq G S := by
  obtain ⟨hb0, mb, D, L, dv, bv, Bl, h1, h2, h3⟩ := h
  exact ⟨hb0, mb, D, L, dv, bv, Bl, h1.below hb, h2, h3⟩
theorem StI.lt {B : Nat} {w : World} {q dq : Nat} {G : Nat → Prop} {S : StM} (h : StI B w q dq G S) : ∀ k, G k → k < w.heap.size := by
  obtain ⟨hb, mb, D, L, dv, bv, Bl, h1, rfl, _⟩ := h
  rintro k (rfl | hk | hk | hk)
  · exact h1.hd.lt
  · rcases hk with rfl | rfl | ⟨x, hx, rfl | hk⟩
    · exact h1.he.hd.lt
    · exact h1.he.mp.lt
    · exact (h1.he.ln x hx).1.lt
    · exact (h1.he.ln x hx).2.1.lt k hk
  · exact h1.dk.S_lt k hk
  · exact h1.bl.lt k hk
/-- What another store does. -/
theorem StI.fr {B : Nat} {w w' : World} {q dq : Nat} {G F : Nat → Prop} {S : StM} (h : StI B w q dq G S) (hf : Fr F w w') (hn : ∀ k, G k → ¬ F k) : StI B w' q dq G S := by
  obtain ⟨hb, mb, D, L, dv, bv, Bl, h1, rfl, h3⟩ := h
  exact ⟨hb, mb, D, L, dv, bv, Bl, h1.fr hf hn, rfl, h3⟩
/-- A step of a store: what it is then, and what it wrote. -/
def StPost (B q dq : Nat) (G : Nat → Prop) (w w' : World) (S' : StM) : Prop := ∃ G', StI B w' q dq G' S' ∧ StStep w w' G G'
theorem StPost.same {B q dq : Nat} {G : Nat → Prop} {w w' : World} {S : StM} (h : StI B w q dq G S) (hb : Below w.heap.size w w') : StPost B q dq G w w' S := ⟨G, h.below hb, StStep.below hb⟩
theorem StStep.low {B : Nat} {w w' : World} {G G' : Nat → Prop} (h : StStep w w' G G') (hG : ∀ k, G k → B ≤ k) (hB : B ≤ w.heap.size) : (∀ k, G' k → B ≤ k) ∧ Below B w w' :=
  ⟨fun k hk => (h.mv k hk).elim (hG k) (fun h => Nat.le_trans hB h), h.fr.below hB (fun k hk hg => by have := hG k hg; omega)⟩
theorem HeadAt.hds {w : World} {F : Nat → Prop} {hb mb : Nat} {D : DataW Unit} {L : List HLn} (h : HeadAt w F hb mb D L) : ∀ k, HdS hb mb L k → F k := by
  rintro k (rfl | rfl | ⟨x, hx, rfl | hk⟩)
  · exact h.fh
  · exact h.fm
  · exact (h.ln x hx).2.2.1
  · exact (h.ln x hx).2.2.2 k hk
section
variable {B : Nat} {w w' : World} {q hb mb : Nat} {D : DataW Unit} {L : List HLn} {dq : Nat} {dv bv : Value} {Bl : List BkV} {S : StM}
theorem StAt.toI (h : StAt w q hb mb D L dq dv bv Bl S) (hlo : ∀ k, StS q hb mb L dq dv bv Bl k → B ≤ k) : StI B w q dq (StS q hb mb L dq dv bv Bl) S := ⟨hb, mb, D, L, dv, bv, Bl, h, rfl, hlo⟩
theorem StAt.dlo (hlo : ∀ k, StS q hb mb L dq dv bv Bl k → B ≤ k) : DkLo B dq dv := fun k hk => hlo k (.inr (.inr (.inl hk)))
/-- The disk has turned. -/
theorem StAt.diskStep (h : StAt w q hb mb D L dq dv bv Bl S) {dv' : Value} {d' : Dk} (hd : DStep w w' dq dv dv' d') :
    StAt w' q hb mb D L dq dv' bv Bl ⟨S.A, d', S.sp, S.kp, S.B⟩ ∧ StStep w w' (StS q hb mb L dq dv bv Bl) (StS q hb mb L dq dv' bv Bl) := by
  refine ⟨h.disk hd, hd.fr.mono (fun k _ hk => .inr (.inr (.inl hk))), fun k hk => ?_⟩
  rcases hk with hk | hk | hk | hk
  · exact .inl (.inl hk)
  · exact .inl (.inr (.inl hk))
  · rcases hk with hk | hk
    · exact .inl (.inr (.inr (.inl (.inl hk))))
    · exact (hd.mv k hk).elim (fun h => .inl (.inr (.inr (.inl (.inr h))))) .inr
  · exact .inl (.inr (.inr (.inr hk)))
/-- The head has turned. -/
theorem StAt.headStep (h : StAt w q hb mb D L dq dv bv Bl S) {D' : DataW Unit} {L' : List HLn} (hh : HeadAt w' (fun k => HdS hb mb L k ∨ w.heap.size ≤ k) hb mb D' L') (hf : Fr (HdS hb mb L) w w') :
    StAt w' q hb mb D' L' dq dv bv Bl ⟨absL L', S.d, S.sp, S.kp, S.B⟩ ∧ StStep w w' (StS q hb mb L dq dv bv Bl) (StS q hb mb L' dq dv bv Bl) := by
  refine ⟨h.head hh hf, hf.mono (fun k _ hk => .inr (.inl hk)), fun k hk => ?_⟩
  rcases hk with hk | hk | hk | hk
  · exact .inl (.inl hk)
  · exact (hh.hds k hk).elim (fun h => .inl (.inr (.inl h))) .inr
  · exact .inl (.inr (.inr (.inl hk)))
  · exact .inl (.inr (.inr (.inr hk)))
end
end Go.Proofs.YthgefobcohlegaaGreatDoor
