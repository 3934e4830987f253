/- The reference's head: a line is stored; what that does to the plain head. -/
import Derived.Test.YtfnjgminbjopeaaGreatDoorRHeadQ
import Derived.Test.YtfnjgminbjopeaaGreatDoorHeadInvQ
import Derived.Laws.OwnMore
namespace Go.Proofs.YtfnjgminbjopeaaGreatDoor
open Go.RowKit
set_option linter.unusedVariables false

theorem rlC_cons (x : RLn) (L : List RLn) : rlC (x :: L) = .string (B8 x.nm) :: x.v :: .int .i64 x.last :: rlC L := rfl
theorem rlC_set (L : List RLn) (k : Nat) (y : RLn) : rlC (L.set k y) = (((rlC L).set (k * 3) (.string (B8 y.nm))).set (k * 3 + 1) y.v).set (k * 3 + 2) (.int .i64 y.last) := by
  induction L generalizing k with
  | nil => rfl
  | cons x L ih =>
    cases k with
    | zero => rfl
    | succ k =>
      rw [List.set_cons_succ, rlC_cons, ih, rlC_cons]
      have e1 : (k + 1) * 3 = k * 3 + 1 + 1 + 1 := by omega
      rw [e1]
      rfl
theorem ref_store {w : World} {G : Nat → Prop} {b k : Nat} {lv : Value} {L : List RLn} {x y : RLn} (h : RefAt w G b lv L) (hk : L[k]? = some x) (hy : w.ownsRow 0 32 2 y.v y.pts.length (ptsC y.pts)) (hg : ∀ j, y.v.ownBlock = some j → G j)
    {g cap : Nat} (hv : lv = .slice (some ⟨g, 0, none⟩) L.length cap) :
    RefAt (((w.setCell ⟨g, k * 3, none⟩ (.string (B8 y.nm))).setCell ⟨g, k * 3 + 1, none⟩ y.v).setCell ⟨g, k * 3 + 2, none⟩ (.int .i64 y.last)) G b lv (L.set k y) ∧
    Fr G w (((w.setCell ⟨g, k * 3, none⟩ (.string (B8 y.nm))).setCell ⟨g, k * 3 + 1, none⟩ y.v).setCell ⟨g, k * 3 + 2, none⟩ (.int .i64 y.last)) := by
  subst hv
  have hgG : G g := h.gl g rfl
  have hbg : g ≠ b := by
    have := own_ne_blk h.rows h.hd (by decide)
    intro e
    exact this (by rw [← e]; rfl)
  have far : ∀ {size n : Nat} {v : Value} {xs : List Value}, w.ownsRow 0 32 size v n xs → (((w.setCell ⟨g, k * 3, none⟩ (.string (B8 y.nm))).setCell ⟨g, k * 3 + 1, none⟩ y.v).setCell ⟨g, k * 3 + 2, none⟩ (.int .i64 y.last)).ownsRow 0 32 size v n xs := by
    intro size n v xs ho
    have hne : some g ≠ v.ownBlock := by
      intro e
      rcases own_ne_own ho h.rows (by decide) with h1 | h1
      · rw [h1] at e; cases e
      · exact h1 (by rw [← e]; rfl)
    exact own_set (own_set (own_set ho hne _) hne _) hne _
  refine ⟨⟨?_, ?_, ?_, h.gh, fun j hj => h.gl j hj, ?_⟩, ?_⟩
  · exact ((h.hd.far (p := ⟨g, k * 3, none⟩) (fun e => hbg e.symm) _).far (p := ⟨g, k * 3 + 1, none⟩) (fun e => hbg e.symm) _).far (p := ⟨g, k * 3 + 2, none⟩) (fun e => hbg e.symm) _
  · rw [List.length_set, rlC_set]
    exact (((h.rows.stored (k * 3) _).1.stored (k * 3 + 1) _).1.stored (k * 3 + 2) _).1
  · intro z hz
    rcases List.mem_or_eq_of_mem_set hz with hz | rfl
    · exact far (h.pts z hz)
    · exact far hy
  · intro z hz j hj
    rcases List.mem_or_eq_of_mem_set hz with hz | rfl
    · exact h.gp z hz j hj
    · exact hg j hj
  · exact ((Fr.setCell (S := G) (Fr.setCell (S := G) (Fr.setCell (S := G) (Fr.refl _ _) (p := ⟨g, k * 3, none⟩) (.inr hgG) _) (p := ⟨g, k * 3 + 1, none⟩) (.inr hgG) _) (p := ⟨g, k * 3 + 2, none⟩) (.inr hgG) _))
theorem absR_cons (x : RLn) (L : List RLn) : absR (x :: L) = (x.nm, x.pts, x.last) :: absR L := rfl
theorem absR_put {L : List RLn} {k : Nat} {x : RLn} {s : Bs} (hs : hSrt (absR L)) (hk : L[k]? = some x) (hn : x.nm = s) (p : Int × Int) (v : Value) : absR (L.set k ⟨s, v, x.pts ++ [p], p.1⟩) = hPut (absR L) s p := by
  induction L generalizing k with
  | nil => cases hk
  | cons a L ih =>
    have hs' := List.pairwise_cons.1 hs
    cases k with
    | zero =>
      obtain rfl : a = x := by simpa using hk
      have hA : hPut (absR L) s p = absR L := hPut_other (fun y hy e2 => by have := hs'.1 y hy; dsimp only at this; rw [e2, hn] at this; exact lt_irrefl_bs _ this) p
      rw [List.set_cons_zero, absR_cons, absR_cons]
      unfold hPut at hA ⊢
      rw [List.map_cons, hA, if_pos (by simpa using hn)]
    | succ k =>
      have hk' : L[k]? = some x := by simpa using hk
      have hxm : (x.nm, x.pts, x.last) ∈ absR L := List.mem_map.2 ⟨x, List.mem_of_getElem? hk', rfl⟩
      have hne : a.nm ≠ s := fun e => by have := hs'.1 _ hxm; dsimp only at this; rw [e, hn] at this; exact lt_irrefl_bs _ this
      rw [List.set_cons_succ, absR_cons, absR_cons, ih hs'.2 hk']
      unfold hPut
      rw [List.map_cons, if_neg (by simpa using hne)]
/-- Where a new name belongs. -/
def rPl (L : List RLn) (s : Bs) : Nat := (L.takeWhile fun x => decide (x.nm < s)).length
theorem rPl_le (L : List RLn) (s : Bs) : rPl L s ≤ L.length := by
  unfold rPl
  exact List.Sublist.length_le (List.takeWhile_sublist _)
theorem rPl_lt {L : List RLn} {s : Bs} {k : Nat} {y : RLn} (hk : k < rPl L s) (hy : L[k]? = some y) : y.nm < s := by
  induction L generalizing k with
  | nil => cases hy
  | cons x L ih =>
    unfold rPl at hk
    rw [List.takeWhile_cons] at hk
    by_cases h : x.nm < s
    · rw [if_pos (by simpa using h)] at hk
      cases k with
      | zero => obtain rfl : x = y := by simpa using hy
                exact h
      | succ k => exact ih (k := k) (by unfold rPl; simpa using hk) (by simpa using hy)
    · rw [if_neg (by simpa using h)] at hk
      simp at hk
theorem rPl_at {L : List RLn} {s : Bs} {y : RLn} (hy : L[rPl L s]? = some y) : ¬ y.nm < s := by
  induction L with
  | nil => cases hy
  | cons x L ih =>
    unfold rPl at hy
    rw [List.takeWhile_cons] at hy
    by_cases h : x.nm < s
    · rw [if_pos (by simpa using h)] at hy
      exact ih (by unfold rPl; simpa using hy)
    · rw [if_neg (by simpa using h)] at hy
      obtain rfl : x = y := by simpa using hy
      exact h
theorem absR_app (A B : List RLn) : absR (A ++ B) = absR A ++ absR B := by unfold absR; rw [List.map_append]
theorem absR_ins (L : List RLn) (s : Bs) (y : RLn) (hy : y.nm = s) : absR (L.take (rPl L s) ++ y :: L.drop (rPl L s)) = hIns (absR L) (s, y.pts, y.last) := by
  unfold hIns
  dsimp only
  have h1 : (absR L).takeWhile (fun z => decide (z.1 < s)) = absR (L.take (rPl L s)) := by
    unfold absR rPl
    rw [List.takeWhile_map]
    exact congrArg _ (List.prefix_iff_eq_take.1 (List.takeWhile_prefix (fun x : RLn => decide (x.nm < s))))
  have h2 : (absR L).dropWhile (fun z => decide (z.1 < s)) = absR (L.drop (rPl L s)) := by
    have e1 := List.takeWhile_append_dropWhile (p := fun z : HA => decide (z.1 < s)) (l := absR L)
    have e2 : absR (L.take (rPl L s)) ++ absR (L.drop (rPl L s)) = absR L := by rw [← absR_app, List.take_append_drop]
    rw [h1] at e1
    exact List.append_cancel_left (e1.trans e2.symm)
  rw [h1, h2, absR_app, absR_cons, hy]
theorem set_mid (A B : List RLn) (x y : RLn) {k : Nat} (hk : A.length = k) : (A ++ x :: B).set k y = A ++ y :: B := by
  subst hk
  induction A with
  | nil => rfl
  | cons a A ih => rw [List.cons_append, List.length_cons, List.set_cons_succ, ih]; rfl
end Go.Proofs.YtfnjgminbjopeaaGreatDoor
