/- chunk.Merge by its contract. -/
import Derived.Test.YtfnjgminbjopeaaDoorConcat
namespace Go.Proofs.YtfnjgminbjopeaaDoor
open Go.RowKit
set_option linter.unusedVariables false

/-- How long the slice is that block g holds. -/
def lenAt (w : World) (g : Nat) : Nat := match w.cell? ⟨g, 0, none⟩ with
  | some (.slice _ n _) => n
  | _ => 0
theorem lenAt_of {w : World} {g n c : Nat} {t : TypeId} {A : Option Addr} (h : Blk w g t #[.slice A n c]) : lenAt w g = n := by
  unfold lenAt
  rw [show w.cell? ⟨g, 0, none⟩ = some (.slice A n c) from h.cell 0]
/-- What holds at a round's head. -/
structure MgR (w : World) (a b : List (Int × Int)) (s : Nat) (o : Value) (wr : World) (A1 : Option Addr) (n1 c1 : Nat) (l1 : List (Int × Int)) (A2 : Option Addr) (n2 c2 : Nat) (l2 : List (Int × Int)) (acc : List (Int × Int)) : Prop where
  b1 : Blk wr w.heap.size 22 #[.slice A1 n1 c1]
  b2 : Blk wr (w.heap.size + 1) 22 #[.slice A2 n2 c2]
  r1 : Rd w w.heap.size 2 A1 n1 (ptsC l1)
  r2 : Rd w w.heap.size 2 A2 n2 (ptsC l2)
  k1 : n1 ≤ c1
  k2 : n2 ≤ c2
  eq : acc ++ mergeP l1 l2 = mergeP a b
  le : acc.length + n1 + n2 ≤ s
  own : wr.ownsRow (w.heap.size + 2) 33 2 o acc.length (ptsC acc)
  bel : Below w.heap.size w wr
def MgE (w : World) (a b : List (Int × Int)) (s : Nat) (o : Value) (wr : World) : Prop := ∃ A1 n1 c1 l1 A2 n2 c2 l2 acc, MgR w a b s o wr A1 n1 c1 l1 A2 n2 c2 l2 acc
theorem ptsC_drop1 {y : Int × Int} {l : List (Int × Int)} : (ptsC (y :: l)).drop (1 * 2) = ptsC l := by simp [ptsC]
theorem Rd.cut1 {w : World} {A : Option Addr} {n c : Nat} {y : Int × Int} {l : List (Int × Int)} (h : Rd w w.heap.size 2 A n (ptsC (y :: l))) (hn : 1 ≤ n) (hc : n ≤ c) (hc1 : c ≠ 1) {b o : Nat} (hA : A = some ⟨b, o, none⟩) :
    Rd w w.heap.size 2 (some ⟨b, o + 2, none⟩) (n - 1) (ptsC l) := by
  have := h.cut (k := 1) hn hc
  rw [if_neg hc1, ptsC_drop1, hA] at this
  simpa [add_at] using this
theorem Rd.cut0 {w : World} {A : Option Addr} {n : Nat} {y : Int × Int} {l : List (Int × Int)} (h : Rd w w.heap.size 2 A n (ptsC (y :: l))) (hn : n = 1) : Rd w w.heap.size 2 A (n - 1) (ptsC l) := by
  subst hn
  have h1 := h.1
  rw [ptsC_len] at h1
  simp at h1
  obtain rfl : l = [] := List.eq_nil_of_length_eq_zero (by omega)
  exact Rd.empty
theorem head_pt {w : World} {A : Option Addr} {n : Nat} {l : List (Int × Int)} (h : Rd w w.heap.size 2 A n (ptsC l)) (hn : 0 < n) : ∃ b o y l', A = some ⟨b, o, none⟩ ∧ b < w.heap.size ∧ l = y :: l' ∧ w.cell? ⟨b, o, none⟩ = some (.int .i64 y.1) ∧ w.cell? ⟨b, o + 1, none⟩ = some (.int .u64 y.2) := by
  obtain ⟨b, o, y, hA, hb, hy, e0, e1⟩ := h.at2 hn
  cases l with
  | nil => simp at hy
  | cons x l' =>
    simp at hy
    subst hy
    exact ⟨b, o, x, l', hA, hb, rfl, by simpa using e0, by simpa using e1⟩
theorem MgR.first {w : World} {a b : List (Int × Int)} {A A' : Option Addr} {n c n' c' : Nat} (hA : Rd w w.heap.size 2 A n (ptsC a)) (hA' : Rd w w.heap.size 2 A' n' (ptsC b)) (hc : n ≤ c) (hc' : n' ≤ c') :
    MgE w a b (n + n') (.slice none 0 0) ((w.alloc (.cells #[.slice A n c] 22)).alloc (.cells #[.slice A' n' c'] 22)) := by
  have h1 : (w.alloc (.cells #[.slice A n c] 22)).heap.size = w.heap.size + 1 := by simp
  refine ⟨A, n, c, a, A', n', c', b, [], (Blk.new w _ _).alloc _, ?_, hA, hA', hc, hc', rfl, by simp, World.ownsRow_nil _ _ _ _, Below.alloc (Below.alloc (Below.refl _ _) (Nat.le_refl _) _) (by simp) _⟩
  have := Blk.new (w.alloc (.cells #[.slice A n c] 22)) 22 #[.slice A' n' c']
  rw [h1] at this
  exact this
/-- The first of a is dropped. -/
theorem MgR.skip {w wr : World} {a b : List (Int × Int)} {s : Nat} {o : Value} {A1 A2 A3 : Option Addr} {n1 c1 n2 c2 c3 : Nat} {y : Int × Int} {l1 l2 acc : List (Int × Int)} (h : MgR w a b s o wr A1 n1 c1 (y :: l1) A2 n2 c2 l2 acc)
    (hr : Rd w w.heap.size 2 A3 (n1 - 1) (ptsC l1)) (hc : n1 - 1 ≤ c3) (he : mergeP (y :: l1) l2 = mergeP l1 l2) : MgE w a b s o (wr.setCell ⟨w.heap.size, 0, none⟩ (.slice A3 (n1 - 1) c3)) ∧ lenAt (wr.setCell ⟨w.heap.size, 0, none⟩ (.slice A3 (n1 - 1) c3)) w.heap.size = n1 - 1 ∧ lenAt (wr.setCell ⟨w.heap.size, 0, none⟩ (.slice A3 (n1 - 1) c3)) (w.heap.size + 1) = n2 := by
  refine ⟨⟨A3, n1 - 1, c3, l1, A2, n2, c2, l2, acc, h.b1.set_ 0 _, h.b2.far (by simp) _, hr, h.r2, hc, h.k2, by rw [← he]; exact h.eq, by have := h.le; omega, own_set h.own ?_ _, Below.setCell h.bel (by simp) _⟩, lenAt_of (h.b1.set_ 0 _), lenAt_of (h.b2.far (p := ⟨w.heap.size, 0, none⟩) (by simp) _)⟩
  intro e
  have := (own_lt h.own _ e.symm).1
  simp at this
  try omega
/-- The first of a goes behind what there is. -/
theorem MgR.takeA {w wr wa : World} {a b : List (Int × Int)} {s : Nat} {o o' : Value} {A1 A2 A3 : Option Addr} {n1 c1 n2 c2 c3 : Nat} {y : Int × Int} {l1 l2 acc : List (Int × Int)} (h : MgR w a b s o wr A1 n1 c1 (y :: l1) A2 n2 c2 l2 acc)
    (hn : 1 ≤ n1) (hr : Rd w w.heap.size 2 A3 (n1 - 1) (ptsC l1)) (hc : n1 - 1 ≤ c3) (he : mergeP (y :: l1) l2 = y :: mergeP l1 l2)
    (hown' : wa.ownsRow (w.heap.size + 2) 33 2 o' (acc.length + 1) (ptsC acc ++ ptsC [y])) (hgr : (wr.alloc (.cells #[.int .i64 y.1, .int .u64 y.2] 33)).grownBy wa o.ownBlock) :
    MgE w a b s o' (wa.setCell ⟨w.heap.size, 0, none⟩ (.slice A3 (n1 - 1) c3)) ∧ lenAt (wa.setCell ⟨w.heap.size, 0, none⟩ (.slice A3 (n1 - 1) c3)) w.heap.size = n1 - 1 ∧ lenAt (wa.setCell ⟨w.heap.size, 0, none⟩ (.slice A3 (n1 - 1) c3)) (w.heap.size + 1) = n2 := by
  have hne : ∀ k, k < w.heap.size + 2 → some k ≠ o.ownBlock := fun k hk e => by have := (own_lt h.own _ e.symm).1; omega
  refine ⟨⟨A3, n1 - 1, c3, l1, A2, n2, c2, l2, acc ++ [y], ((h.b1.alloc _).grown hgr (hne _ (by omega))).set_ 0 _, ((h.b2.alloc _).grown hgr (hne _ (by omega))).far (by simp) _, hr, h.r2, hc, h.k2, by rw [List.append_assoc, List.singleton_append, ← he]; exact h.eq, by have := h.le; rw [List.length_append, List.length_singleton]; omega, own_set (by rw [List.length_append, ptsC_append]; exact hown') ?_ _, Below.setCell (Below.grown (Below.alloc h.bel h.bel.size _) hgr (by have := h.bel.size; simp; omega) (fun g hg => by have := (own_lt h.own g hg).1; omega)) (by simp) _⟩, lenAt_of (((h.b1.alloc _).grown hgr (hne _ (by omega))).set_ 0 _), lenAt_of (((h.b2.alloc _).grown hgr (hne _ (by omega))).far (p := ⟨w.heap.size, 0, none⟩) (by simp) _)⟩
  intro e
  have := (own_lt hown' _ e.symm).1
  simp at this
  try omega
theorem MgR.takeB {w wr wa : World} {a b : List (Int × Int)} {s : Nat} {o o' : Value} {A1 A2 A3 : Option Addr} {n1 c1 n2 c2 c3 : Nat} {y : Int × Int} {l1 l2 acc : List (Int × Int)} (h : MgR w a b s o wr A1 n1 c1 l1 A2 n2 c2 (y :: l2) acc)
    (hn : 1 ≤ n2) (hr : Rd w w.heap.size 2 A3 (n2 - 1) (ptsC l2)) (hc : n2 - 1 ≤ c3) (he : mergeP l1 (y :: l2) = y :: mergeP l1 l2)
    (hown' : wa.ownsRow (w.heap.size + 2) 33 2 o' (acc.length + 1) (ptsC acc ++ ptsC [y])) (hgr : (wr.alloc (.cells #[.int .i64 y.1, .int .u64 y.2] 33)).grownBy wa o.ownBlock) :
    MgE w a b s o' (wa.setCell ⟨w.heap.size + 1, 0, none⟩ (.slice A3 (n2 - 1) c3)) ∧ lenAt (wa.setCell ⟨w.heap.size + 1, 0, none⟩ (.slice A3 (n2 - 1) c3)) w.heap.size = n1 ∧ lenAt (wa.setCell ⟨w.heap.size + 1, 0, none⟩ (.slice A3 (n2 - 1) c3)) (w.heap.size + 1) = n2 - 1 := by
  have hne : ∀ k, k < w.heap.size + 2 → some k ≠ o.ownBlock := fun k hk e => by have := (own_lt h.own _ e.symm).1; omega
  refine ⟨⟨A1, n1, c1, l1, A3, n2 - 1, c3, l2, acc ++ [y], ((h.b1.alloc _).grown hgr (hne _ (by omega))).far (by simp) _, ((h.b2.alloc _).grown hgr (hne _ (by omega))).set_ 0 _, h.r1, hr, h.k1, hc, by rw [List.append_assoc, List.singleton_append, ← he]; exact h.eq, by have := h.le; rw [List.length_append, List.length_singleton]; omega, own_set (by rw [List.length_append, ptsC_append]; exact hown') ?_ _, Below.setCell (Below.grown (Below.alloc h.bel h.bel.size _) hgr (by have := h.bel.size; simp; omega) (fun g hg => by have := (own_lt h.own g hg).1; omega)) (by simp) _⟩, lenAt_of (((h.b1.alloc _).grown hgr (hne _ (by omega))).far (p := ⟨w.heap.size + 1, 0, none⟩) (by simp) _), lenAt_of (((h.b2.alloc _).grown hgr (hne _ (by omega))).set_ 0 _)⟩
  intro e
  have := (own_lt hown' _ e.symm).1
  simp at this
  try omega
theorem MgE.drewN {w wr : World} {a b : List (Int × Int)} {s : Nat} {o : Value} (h : MgE w a b s o wr) (q : Nat) : MgE w a b s o (wr.drewN q) := by
  obtain ⟨A1, n1, c1, l1, A2, n2, c2, l2, acc, h⟩ := h
  exact ⟨A1, n1, c1, l1, A2, n2, c2, l2, acc, h.b1, h.b2, h.r1, h.r2, h.k1, h.k2, h.eq, h.le, h.own, Below.drewN h.bel q⟩
theorem MgR.drewN {w wr : World} {a b : List (Int × Int)} {s : Nat} {o : Value} {A1 A2 : Option Addr} {n1 c1 n2 c2 : Nat} {l1 l2 acc : List (Int × Int)} (h : MgR w a b s o wr A1 n1 c1 l1 A2 n2 c2 l2 acc) (q : Nat) : MgR w a b s o (wr.drewN q) A1 n1 c1 l1 A2 n2 c2 l2 acc :=
  ⟨h.b1, h.b2, h.r1, h.r2, h.k1, h.k2, h.eq, h.le, h.own, Below.drewN h.bel q⟩

theorem MgR.after {w wr wa : World} {a b : List (Int × Int)} {s : Nat} {o : Value} {A1 A2 : Option Addr} {n1 c1 n2 c2 : Nat} {l1 l2 acc : List (Int × Int)} (h : MgR w a b s o wr A1 n1 c1 l1 A2 n2 c2 l2 acc) {ob : Obj} (hgr : (wr.alloc ob).grownBy wa o.ownBlock) :
    (wa.cell? ⟨w.heap.size, 0, none⟩ = some (.slice A1 n1 c1) ∧ wa.frozen? ⟨w.heap.size, 0, none⟩ = false) ∧ (wa.cell? ⟨w.heap.size + 1, 0, none⟩ = some (.slice A2 n2 c2) ∧ wa.frozen? ⟨w.heap.size + 1, 0, none⟩ = false) := by
  have hne : ∀ k, k < w.heap.size + 2 → some k ≠ o.ownBlock := fun k hk e => by have := (own_lt h.own _ e.symm).1; omega
  have k1 := (h.b1.alloc ob).grown hgr (hne _ (by omega))
  have k2 := (h.b2.alloc ob).grown hgr (hne _ (by omega))
  exact ⟨⟨k1.cell 0, k1.frozen 0⟩, ⟨k2.cell 0, k2.frozen 0⟩⟩

theorem lt_of_eq_sum {x y x' y' n1 n2 : Nat} (h1 : x = n1 - 1) (h2 : y = n2) (h3 : x' = n1) (h4 : y' = n2) (h : 0 < n1) : x + y < x' + y' := by omega
theorem lt_of_eq_sum2 {x y x' y' n1 n2 : Nat} (h1 : x = n1) (h2 : y = n2 - 1) (h3 : x' = n1) (h4 : y' = n2) (h : 0 < n2) : x + y < x' + y' := by omega
/-- Behind the loop: the three lists as one. -/
theorem mg_cat {w wr : World} {a b : List (Int × Int)} {s : Nat} {Ao : Option Addr} {co : Nat} {A1 A2 : Option Addr} {n1 c1 n2 c2 : Nat} {l1 l2 acc : List (Int × Int)} (h : MgR w a b s (.slice Ao acc.length co) wr A1 n1 c1 l1 A2 n2 c2 l2 acc) (hws : w.heap.size + 2 ≤ wr.heap.size) (hs : acc.length + n1 + n2 ≤ 20000)
    (hcat : acc ++ (l1 ++ l2) = mergeP a b) (q : Nat) :
    Calls Tryd.prog 50 #[.slice (some ⟨wr.heap.size, 0, none⟩) 3 3] (wr.alloc (.cells #[.slice Ao acc.length co, .slice A1 n1 c1, .slice A2 n2 c2] 22)) fun e w' =>
      ∃ v, e = .returned v ∧ w'.ownsRow w.heap.size 33 2 v (mergeP a b).length (ptsC (mergeP a b)) ∧ Below w.heap.size w w' := by
  have hb := Blk.new wr 22 #[.slice Ao acc.length co, .slice A1 n1 c1, .slice A2 n2 c2]
  have hb2 : Below w.heap.size w (wr.alloc (.cells #[.slice Ao acc.length co, .slice A1 n1 c1, .slice A2 n2 c2] 22)) := Below.alloc h.bel (by omega) _
  have hl1 : l1.length = n1 := by have := h.r1.1; rw [ptsC_len] at this; omega
  have hl2 : l2.length = n2 := by have := h.r2.1; rw [ptsC_len] at this; omega
  have hlen : (mergeP a b).length = acc.length + (n1 + (n2 + 0)) := by rw [← hcat, List.length_append, List.length_append, hl1, hl2]; rfl
  have hr : Rd wr wr.heap.size 2 Ao acc.length (ptsC acc) := Rd.of_own h.own
  refine (concat_any wr.heap.size 3 3 [⟨Ao, acc.length, co, ptsC acc⟩, ⟨A1, n1, c1, ptsC l1⟩, ⟨A2, n2, c2, ptsC l2⟩] _ ⟨rfl, fun _ => ⟨_, _, rfl, hb.lt, fun j u hu => by rw [Nat.zero_add, hb.cell]; simpa [Sl.v] using hu⟩⟩ ?_ (by omega) ?_).mono ?_
  · intro s hs
    simp only [List.mem_cons, List.mem_nil_iff, or_false] at hs
    rcases hs with rfl | rfl | rfl
    · exact ⟨(hr.alloc (Nat.le_refl _) _).more (by simp), ptsC_one acc⟩
    · exact ⟨(h.r1.below hb2).more hb2.size, ptsC_one l1⟩
    · exact ⟨(h.r2.below hb2).more hb2.size, ptsC_one l2⟩
  · show acc.length + (n1 + (n2 + 0)) ≤ 100000
    omega
  · rintro e w' ⟨v, rfl, hown, hbel⟩
    refine ⟨v, rfl, ?_, Below.call hb2 hbel hb2.size⟩
    have e1 : sumS [⟨Ao, acc.length, co, ptsC acc⟩, ⟨A1, n1, c1, ptsC l1⟩, ⟨A2, n2, c2, ptsC l2⟩] = (mergeP a b).length := by rw [hlen]; rfl
    have e2 : ([⟨Ao, acc.length, co, ptsC acc⟩, ⟨A1, n1, c1, ptsC l1⟩, ⟨A2, n2, c2, ptsC l2⟩] : List Sl).flatMap Sl.xs = ptsC (mergeP a b) := by
      rw [← hcat, ptsC_append, ptsC_append]
      simp
    rw [e1, e2] at hown
    exact own_base hown (by simp; omega)

set_option maxRecDepth 100000 in
set_option maxHeartbeats 8000000 in
theorem merge_any (A : Option Addr) (n c : Nat) (A' : Option Addr) (n' c' : Nat) (a b : List (Int × Int)) (w : World) (hA : Rd w w.heap.size 2 A n (ptsC a)) (hA' : Rd w w.heap.size 2 A' n' (ptsC b)) (hn : n ≤ 10000) (hn' : n' ≤ 10000) (hc : n ≤ c) (hc' : n' ≤ c') :
    Calls Tryd.prog 16 #[.slice A n c, .slice A' n' c'] w fun e w' => ∃ v, e = .returned v ∧ w'.ownsRow w.heap.size 33 2 v (mergeP a b).length (ptsC (mergeP a b)) ∧ Below w.heap.size w w' := by
  obtain ⟨i0, hi, hz0, hz1, hz2⟩ := info_parts infoPt
  have Hi := Lib.hid hi; have Hz0 := Lib.hid hz0; have Hz1 := Lib.hid hz1; have Hz2 := Lib.hid hz2
  have H0 := Lib.hid (MgR.first hA hA' hc hc')
  clear hi hz0 hz1 hz2 hA hA'
  go_enter Tryd.func16, Tryd.ntmps16
  go_wp2
  go_loopw [5] (fun o wr => MgE w a b (n + n') o wr) (fun _ wr => lenAt wr w.heap.size + lenAt wr (w.heap.size + 1))
  case atStart => exact H0.out
  case round =>
    clear H0
    obtain ⟨A1, n1, c1, l1, A2, n2, c2, l2, acc, h⟩ := hrel
    obtain ⟨Ao, co, rfl, _, _, _⟩ := own_form h.own
    have H := Lib.hid h
    have hL1 := Lib.hid (lenAt_of h.b1); have hL2 := Lib.hid (lenAt_of h.b2)
    have a1 : wr.cell? ⟨w.heap.size, 0, none⟩ = some (.slice A1 n1 c1) := h.b1.cell 0
    have a2 : wr.cell? ⟨w.heap.size + 1, 0, none⟩ = some (.slice A2 n2 c2) := h.b2.cell 0
    have f1 : wr.frozen? ⟨w.heap.size, 0, none⟩ = false := h.b1.frozen 0
    have f2 : wr.frozen? ⟨w.heap.size + 1, 0, none⟩ = false := h.b2.frozen 0
    have hs : acc.length + n1 + n2 ≤ 20000 := by have := h.le; omega
    have hk1 := h.k1
    have hk2 := h.k2
    have hws : w.heap.size + 2 ≤ wr.heap.size := by have := h.b2.lt; omega
    clear h
    by_cases h1 : 0 < n1
    · by_cases h2 : 0 < n2
      · obtain ⟨b1, o1, y, l1', rfl, hb1, rfl, e0, e1⟩ := head_pt H.out.r1 h1
        obtain ⟨b2, o2, z, l2', rfl, hb2, rfl, e2, e3⟩ := head_pt H.out.r2 h2
        have x0 : wr.cell? ⟨b1, o1, none⟩ = some (.int .i64 y.1) := (H.out.bel.cell (p := ⟨b1, o1, none⟩) hb1).trans e0
        have x1 : wr.cell? ⟨b1, o1 + 1, none⟩ = some (.int .u64 y.2) := (H.out.bel.cell (p := ⟨b1, o1 + 1, none⟩) hb1).trans e1
        have x2 : wr.cell? ⟨b2, o2, none⟩ = some (.int .i64 z.1) := (H.out.bel.cell (p := ⟨b2, o2, none⟩) hb2).trans e2
        have x3 : wr.cell? ⟨b2, o2 + 1, none⟩ = some (.int .u64 z.2) := (H.out.bel.cell (p := ⟨b2, o2 + 1, none⟩) hb2).trans e3
        obtain ⟨y1, y2⟩ := y
        obtain ⟨z1, z2⟩ := z
        simp only at x0 x1 x2 x3
        clear e0 e1 e2 e3
        have hk63 : acc.length + 1 ≤ maxLen := by unfold maxLen; omega
        have hk8 : (acc.length + 1) * 16 ≤ 140737488355328 := by omega
        rcases Int.lt_trichotomy y1 z1 with hlt | heq | hgt
        · have q1 : (y1 == z1) = false := by simp; omega
          have q2 : decide (z1 < y1) = false := by simp; omega
          have He := Lib.hid (show mergeP ((y1, y2) :: l1') ((z1, z2) :: l2') = (y1, y2) :: mergeP l1' ((z1, z2) :: l2') from merge_lt hlt)
          have HrA := Lib.hid (show ∀ q, Rd ((wr.drewN q).alloc (.cells #[.int .i64 y1, .int .u64 y2] 33)) ((wr.drewN q).alloc (.cells #[.int .i64 y1, .int .u64 y2] 33)).heap.size 2 (some ⟨wr.heap.size, 0, none⟩) 1 (ptsC [(y1, y2)]) from fun q => Rd.one2 (wr.drewN q) 33 (y1, y2))
          have Hsz := Lib.hid (show ∀ q, w.heap.size + 2 ≤ ((wr.drewN q).alloc (.cells #[.int .i64 y1, .int .u64 y2] 33)).heap.size from fun q => by simp; omega)
          have HoD := Lib.hid (show ∀ q, ((wr.drewN q).alloc (.cells #[.int .i64 y1, .int .u64 y2] 33)).ownsRow (w.heap.size + 2) 33 2 (.slice Ao acc.length co) acc.length (ptsC acc) from fun q => (own_drewN H.out.own q).alloc _)
          by_cases hc1 : c1 = 1
          · subst hc1
            obtain rfl : n1 = 1 := by omega
            have Hr3 := Lib.hid (Rd.cut0 H.out.r1 (by omega))
            go_wp2
            go_quiet (fail)
            go_wp2
            go_quiet (fail)
            have tok1 : True := trivial
            go_wp2_with (have htok := tok1; at_builtin; refine wpList_append_rd _ rfl (.tmp 35) (.tmp 41) _ rfl (w.heap.size + 2) 33 i0 (.agg #[.int .i64 0, .int .u64 0]) 2 16 Tryd.underlying22 Hi.out Hz0.out Hz1.out Hz2.out rfl (by decide) (.slice Ao acc.length co) acc.length _ rfl (HoD.out _) _ _ 1 1 (ptsC [(y1, y2)]) rfl (HrA.out _) (ptsC_one [(y1, y2)]) hk63 hk8 (Hsz.out _) ?_; intro v' wa hown' hgr hat; clear htok tok1; have HX := Lib.hid (((H.out.drewN _).takeA (by omega) Hr3.out (show _ ≤ 1 - 1 by omega) He.out hown' hgr)); obtain ⟨⟨g1, g2⟩, ⟨g3, g4⟩⟩ := (H.out.drewN _).after hgr; clear hown' hgr hat)
            go_roundw
            case rel => exact HX.out.1
            case measure => exact lt_of_eq_sum HX.out.2.1 HX.out.2.2 hL1.out hL2.out (by omega)
          · have Hr3 := Lib.hid (Rd.cut1 H.out.r1 (by omega) (by omega) hc1 rfl)
            have hcI : (1 : Int) ≤ (c1 : Int) := by omega
            go_wp2
            go_quiet (fail)
            go_wp2
            go_quiet (fail)
            have tok1 : True := trivial
            go_wp2_with (have htok := tok1; at_builtin; refine wpList_append_rd _ rfl (.tmp 35) (.tmp 41) _ rfl (w.heap.size + 2) 33 i0 (.agg #[.int .i64 0, .int .u64 0]) 2 16 Tryd.underlying22 Hi.out Hz0.out Hz1.out Hz2.out rfl (by decide) (.slice Ao acc.length co) acc.length _ rfl (HoD.out _) _ _ 1 1 (ptsC [(y1, y2)]) rfl (HrA.out _) (ptsC_one [(y1, y2)]) hk63 hk8 (Hsz.out _) ?_; intro v' wa hown' hgr hat; clear htok tok1; have HX := Lib.hid (((H.out.drewN _).takeA (by omega) Hr3.out (show _ ≤ c1 - 1 by omega) He.out hown' hgr)); obtain ⟨⟨g1, g2⟩, ⟨g3, g4⟩⟩ := (H.out.drewN _).after hgr; clear hown' hgr hat)
            go_roundw
            case rel => exact HX.out.1
            case measure => exact lt_of_eq_sum HX.out.2.1 HX.out.2.2 hL1.out hL2.out (by omega)
        · subst heq
          have He := Lib.hid (show mergeP ((y1, y2) :: l1') ((y1, z2) :: l2') = mergeP l1' ((y1, z2) :: l2') from merge_eq rfl)
          by_cases hc1 : c1 = 1
          · subst hc1
            obtain rfl : n1 = 1 := by omega
            have Hr3 := Lib.hid (Rd.cut0 H.out.r1 (by omega))
            have HX := Lib.hid (fun q => (H.out.drewN q).skip Hr3.out (show _ ≤ 1 - 1 by omega) He.out)
            go_wp2
            go_quiet (fail)
            go_wp2
            go_roundw
            case rel => exact (HX.out _).1
            case measure => exact lt_of_eq_sum (HX.out _).2.1 (HX.out _).2.2 hL1.out hL2.out (by omega)
          · have Hr3 := Lib.hid (Rd.cut1 H.out.r1 (by omega) (by omega) hc1 rfl)
            have hcI : (1 : Int) ≤ (c1 : Int) := by omega
            have HX := Lib.hid (fun q => (H.out.drewN q).skip Hr3.out (show _ ≤ c1 - 1 by omega) He.out)
            go_wp2
            go_quiet (fail)
            go_wp2
            go_roundw
            case rel => exact (HX.out _).1
            case measure => exact lt_of_eq_sum (HX.out _).2.1 (HX.out _).2.2 hL1.out hL2.out (by omega)
        · have q1 : (y1 == z1) = false := by simp; omega
          have q2 : decide (z1 < y1) = true := by simp; omega
          have He := Lib.hid (show mergeP ((y1, y2) :: l1') ((z1, z2) :: l2') = (z1, z2) :: mergeP ((y1, y2) :: l1') l2' from merge_gt hgt)
          have HrA := Lib.hid (show ∀ q, Rd ((wr.drewN q).alloc (.cells #[.int .i64 z1, .int .u64 z2] 33)) ((wr.drewN q).alloc (.cells #[.int .i64 z1, .int .u64 z2] 33)).heap.size 2 (some ⟨wr.heap.size, 0, none⟩) 1 (ptsC [(z1, z2)]) from fun q => Rd.one2 (wr.drewN q) 33 (z1, z2))
          have Hsz := Lib.hid (show ∀ q, w.heap.size + 2 ≤ ((wr.drewN q).alloc (.cells #[.int .i64 z1, .int .u64 z2] 33)).heap.size from fun q => by simp; omega)
          have HoD := Lib.hid (show ∀ q, ((wr.drewN q).alloc (.cells #[.int .i64 z1, .int .u64 z2] 33)).ownsRow (w.heap.size + 2) 33 2 (.slice Ao acc.length co) acc.length (ptsC acc) from fun q => (own_drewN H.out.own q).alloc _)
          by_cases hc1 : c2 = 1
          · subst hc1
            obtain rfl : n2 = 1 := by omega
            have Hr3 := Lib.hid (Rd.cut0 H.out.r2 (by omega))
            go_wp2
            go_quiet (fail)
            go_wp2
            go_quiet (fail)
            have tok1 : True := trivial
            go_wp2_with (have htok := tok1; at_builtin; refine wpList_append_rd _ rfl (.tmp 35) (.tmp 41) _ rfl (w.heap.size + 2) 33 i0 (.agg #[.int .i64 0, .int .u64 0]) 2 16 Tryd.underlying22 Hi.out Hz0.out Hz1.out Hz2.out rfl (by decide) (.slice Ao acc.length co) acc.length _ rfl (HoD.out _) _ _ 1 1 (ptsC [(z1, z2)]) rfl (HrA.out _) (ptsC_one [(z1, z2)]) hk63 hk8 (Hsz.out _) ?_; intro v' wa hown' hgr hat; clear htok tok1; have HX := Lib.hid (((H.out.drewN _).takeB (by omega) Hr3.out (show _ ≤ 1 - 1 by omega) He.out hown' hgr)); obtain ⟨⟨g1, g2⟩, ⟨g3, g4⟩⟩ := (H.out.drewN _).after hgr; clear hown' hgr hat)
            go_roundw
            case rel => exact HX.out.1
            case measure => exact lt_of_eq_sum2 HX.out.2.1 HX.out.2.2 hL1.out hL2.out (by omega)
          · have Hr3 := Lib.hid (Rd.cut1 H.out.r2 (by omega) (by omega) hc1 rfl)
            have hcI : (1 : Int) ≤ (c2 : Int) := by omega
            go_wp2
            go_quiet (fail)
            go_wp2
            go_quiet (fail)
            have tok1 : True := trivial
            go_wp2_with (have htok := tok1; at_builtin; refine wpList_append_rd _ rfl (.tmp 35) (.tmp 41) _ rfl (w.heap.size + 2) 33 i0 (.agg #[.int .i64 0, .int .u64 0]) 2 16 Tryd.underlying22 Hi.out Hz0.out Hz1.out Hz2.out rfl (by decide) (.slice Ao acc.length co) acc.length _ rfl (HoD.out _) _ _ 1 1 (ptsC [(z1, z2)]) rfl (HrA.out _) (ptsC_one [(z1, z2)]) hk63 hk8 (Hsz.out _) ?_; intro v' wa hown' hgr hat; clear htok tok1; have HX := Lib.hid (((H.out.drewN _).takeB (by omega) Hr3.out (show _ ≤ c2 - 1 by omega) He.out hown' hgr)); obtain ⟨⟨g1, g2⟩, ⟨g3, g4⟩⟩ := (H.out.drewN _).after hgr; clear hown' hgr hat)
            go_roundw
            case rel => exact HX.out.1
            case measure => exact lt_of_eq_sum2 HX.out.2.1 HX.out.2.2 hL1.out hL2.out (by omega)
      · obtain rfl : n2 = 0 := by omega
        obtain ⟨mm, hmm⟩ : ∃ mm, mm = wr.heap.size := ⟨_, rfl⟩
        have hcat : acc ++ (l1 ++ l2) = mergeP a b := by
          rw [← H.out.eq]
          have h0 := H.out.r2.1
          rw [ptsC_len] at h0
          obtain rfl : l2 = [] := List.eq_nil_of_length_eq_zero (by omega)
          rw [List.append_nil, merge_nil]
        have Hcc := Lib.hid (fun q : Nat => mg_cat H.out hws hs hcat q)
        clear hcat hmm
        go_wp2_with fail
        first
          | refine ((Hcc.out 0).mono ?_)
          | skip
        rintro e w' ⟨v, rfl, hown, hbel⟩
        have Hf := Lib.hid (And.intro hown hbel)
        clear hown hbel
        go_wp2
        go_ret
        exact ⟨v, rfl, Hf.out⟩
    · obtain rfl : n1 = 0 := by omega
      obtain ⟨mm, hmm⟩ : ∃ mm, mm = wr.heap.size := ⟨_, rfl⟩
      have hcat : acc ++ (l1 ++ l2) = mergeP a b := by
        rw [← H.out.eq]
        have h0 := H.out.r1.1
        rw [ptsC_len] at h0
        obtain rfl : l1 = [] := List.eq_nil_of_length_eq_zero (by omega)
        rw [List.nil_append, mergeP]
      have Hcc := Lib.hid (fun q : Nat => mg_cat H.out hws hs hcat q)
      clear hcat hmm
      go_wp2_with fail
      first
        | refine ((Hcc.out 0).mono ?_)
        | skip
      rintro e w' ⟨v, rfl, hown, hbel⟩
      have Hf := Lib.hid (And.intro hown hbel)
      clear hown hbel
      go_wp2
      go_ret
      exact ⟨v, rfl, Hf.out⟩
end Go.Proofs.YtfnjgminbjopeaaDoor
