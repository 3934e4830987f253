/- slices.swapRangeCmpFunc and rotateCmpFunc at numbers, by contracts. -/
import Derived.Test.YtlpkmghhmpkddaaDoorSrtW
import Derived.BigRegion
namespace Go.Proofs.YtlpkmghhmpkddaaDoor
open Go.RowKit
set_option linter.unusedVariables false

theorem set_mid {α : Type} (X : List α) (x y : α) (Y : List α) : (X ++ x :: Y).set X.length y = X ++ y :: Y := by
  rw [List.set_append_right _ _ (Nat.le_refl _), Nat.sub_self]; rfl
/-- A world that differs from another in block g alone, where it holds these numbers. -/
structure Srt (w W : World) (g : Nat) (xs : List Nat) : Prop where
  bk : Blk W g 3 (nC xs)
  fr : Fr (fun k => k = g) w W
  lt : g < w.heap.size
theorem Srt.put {w W : World} {g : Nat} {xs : List Nat} (h : Srt w W g xs) (i y : Nat) : Srt w (W.setCell ⟨g, i, none⟩ (.int .i64 (y : Int))) g (xs.set i y) :=
  ⟨nC_put h.bk i y, h.fr.setCell (p := ⟨g, i, none⟩) (.inr rfl) _, h.lt⟩
theorem Srt.drew {w W : World} {g : Nat} {xs : List Nat} (h : Srt w W g xs) : Srt w W.drew g xs := ⟨h.bk.drew, h.fr.drew, h.lt⟩
theorem Srt.below {w W W' : World} {g : Nat} {xs : List Nat} (h : Srt w W g xs) (hb : Below W.heap.size W W') : Srt w W' g xs := ⟨h.bk.below hb h.bk.lt, h.fr.call hb h.fr.size, h.lt⟩
theorem Srt.trans {w W W' : World} {g : Nat} {xs ys : List Nat} (h : Srt w W g xs) (k : Srt W W' g ys) : Srt w W' g ys := ⟨k.bk, Fr.trans h.fr k.fr (fun _ _ e => e), h.lt⟩
def SrtTo (w W : World) (g : Nat) (xs : List Nat) : Prop := Srt w W g xs
/-- What a swap of places leaves. -/
def swapL (P A M B S : List Nat) (i : Nat) : List Nat := P ++ B.take i ++ A.drop i ++ M ++ A.take i ++ B.drop i ++ S
theorem swapL_step {P A M B S : List Nat} {i a b : Nat} (ha : A[i]? = some a) (hb : B[i]? = some b) : (swapL P A M B S i)[P.length + i]? = some a ∧ (swapL P A M B S i)[P.length + A.length + M.length + i]? = some b ∧ ((swapL P A M B S i).set (P.length + i) b).set (P.length + A.length + M.length + i) a = swapL P A M B S (i + 1) := by
  obtain ⟨ha1, ha2⟩ := List.getElem?_eq_some_iff.1 ha
  obtain ⟨hb1, hb2⟩ := List.getElem?_eq_some_iff.1 hb
  have e0 : swapL P A M B S i = (P ++ B.take i) ++ a :: (A.drop (i + 1) ++ M ++ A.take i ++ b :: (B.drop (i + 1) ++ S)) := by
    unfold swapL
    rw [List.drop_eq_getElem_cons ha1, List.drop_eq_getElem_cons hb1, ha2, hb2]
    simp
  have l1 : (P ++ B.take i).length = P.length + i := by rw [List.length_append, List.length_take]; omega
  have e1 : (swapL P A M B S i).set (P.length + i) b = ((P ++ B.take i) ++ b :: (A.drop (i + 1) ++ M ++ A.take i)) ++ b :: (B.drop (i + 1) ++ S) := by
    rw [e0, ← l1, set_mid]; simp
  have l2 : ((P ++ B.take i) ++ b :: (A.drop (i + 1) ++ M ++ A.take i)).length = P.length + A.length + M.length + i := by
    simp only [List.length_append, List.length_cons, List.length_take, List.length_drop]; omega
  have e2 : swapL P A M B S i = ((P ++ B.take i) ++ a :: (A.drop (i + 1) ++ M ++ A.take i)) ++ b :: (B.drop (i + 1) ++ S) := by rw [e0]; simp
  have l3 : ((P ++ B.take i) ++ a :: (A.drop (i + 1) ++ M ++ A.take i)).length = P.length + A.length + M.length + i := by
    simp only [List.length_append, List.length_cons, List.length_take, List.length_drop]; omega
  refine ⟨?_, ?_, ?_⟩
  · rw [e0, ← l1, List.getElem?_append_right (Nat.le_refl _), Nat.sub_self]; rfl
  · rw [e2, ← l3, List.getElem?_append_right (Nat.le_refl _), Nat.sub_self]; rfl
  · rw [e1, ← l2, set_mid]
    unfold swapL
    rw [take_snoc hb, take_snoc ha]
    simp
abbrev cmpV (pt : Nat) : Value := .func (.func 26) #[] #[.pointer (some ⟨pt, 0, none⟩)]
set_option maxRecDepth 100000 in
set_option maxHeartbeats 4000000 in
theorem swap_any (g N c pt a b n : Nat) (P A M B S : List Nat) (w : World) (hg : Blk w g 3 (nC (P ++ A ++ M ++ B ++ S))) (hN : (P ++ A ++ M ++ B ++ S).length = N) (hN2 : N ≤ 100000) (ha : P.length = a) (hb : P.length + A.length + M.length = b) (hA : A.length = n) (hB : B.length = n) :
    Calls Tryd.prog 62 #[.slice (some ⟨g, 0, none⟩) N c, .int .i64 (a : Int), .int .i64 (b : Int), .int .i64 (n : Int), cmpV pt] w fun e w' => e = .returned (.tuple #[]) ∧ SrtTo w w' g (P ++ B ++ M ++ A ++ S) := by
  have H0 := Lib.hid (show Srt w w g (swapL P A M B S 0) from ⟨by unfold swapL; simpa using hg, Fr.refl _ _, hg.lt⟩)
  have Hst := Lib.hid (fun i (hi : i < n) => show ∃ x y, (swapL P A M B S i)[a + i]? = some x ∧ (swapL P A M B S i)[b + i]? = some y ∧ ((swapL P A M B S i).set (a + i) y).set (b + i) x = swapL P A M B S (i + 1) from by
    have h := swapL_step (P := P) (A := A) (M := M) (B := B) (S := S) (i := i) (List.getElem?_eq_getElem (by omega)) (List.getElem?_eq_getElem (by omega))
    rw [hb, ha] at h
    exact ⟨_, _, h.1, h.2.1, h.2.2⟩)
  have Hend := Lib.hid (show swapL P A M B S n = P ++ B ++ M ++ A ++ S by
    unfold swapL
    rw [List.take_of_length_le (Nat.le_of_eq hB), List.drop_of_length_le (Nat.le_of_eq hA), List.take_of_length_le (Nat.le_of_eq hA), List.drop_of_length_le (Nat.le_of_eq hB)]
    simp)
  have hbn : b + n ≤ N := by rw [← hN]; simp only [List.length_append]; omega
  have han : a + n ≤ b := by omega
  have hne : n = 0 ∨ a < b := by omega
  clear hg hN ha hb hA hB
  generalize P ++ B ++ M ++ A ++ S = F at Hend ⊢
  have Hsw := Lib.hid (fun k => (rfl : swapL P A M B S k = swapL P A M B S k))
  generalize swapL P A M B S = G at H0 Hst Hend
  clear Hsw
  go_enter Tryd.func62, Tryd.ntmps62
  go_wp2
  go_loopw [10] (fun kv wr => ∃ k : Nat, k ≤ n ∧ kv = .int .i64 k ∧ Srt w wr g (G k)) (fun kv _ => n - (intOf kv).toNat)
  case atStart => exact ⟨0, Nat.zero_le _, rfl, H0.out⟩
  case round =>
    obtain ⟨k, hk, rfl, hs⟩ := hrel
    have HS := Lib.hid hs
    by_cases hkn : k < n
    · have hkn' : (k : Int) < n := by omega
      obtain ⟨x, y, hx, hy, hxy⟩ := Hst.out k hkn
      have z0 := nC_cell hs.bk hx
      have z1 := nC_cell hs.bk hy
      have f0 := hs.bk.frozen (a + k)
      have f1 := hs.bk.frozen (b + k)
      have Hx := Lib.hid hxy
      have n1 : IntKind.i64.wrap ((a : Int) + (k : Int)) = ((a + k : Nat) : Int) := by rw [IntKind.wrap_i64]; omega
      have n2 : IntKind.i64.wrap ((b : Int) + (k : Int)) = ((b + k : Nat) : Int) := by rw [IntKind.wrap_i64]; omega
      have i1 : ((a + k : Nat) : Int) < (N : Int) := by omega
      have i2 : ((b + k : Nat) : Int) < (N : Int) := by omega
      have hne2 : a + k ≠ b + k := by omega
      clear hs hx hy hxy
      go_wp2
      go_region
      go_wp2
      go_roundw
      case rel => exact ⟨k + 1, hkn, by go_num, by have h := ((HS.out.put (a + k) y).put (b + k) x).drew; rw [Hx.out] at h; exact h⟩
      case measure => simp [intOf]; omega
    · obtain rfl : k = n := by omega
      have hkn' : ¬ (k : Int) < k := by omega
      rw [Hend.out] at hs
      have HE := Lib.hid hs
      clear hs
      go_wp2
      go_end0
      exact ⟨rfl, HE.out⟩
end Go.Proofs.YtlpkmghhmpkddaaDoor
