/- slices.rotateCmpFunc at numbers, by its contract. -/
import Derived.Test.YtlpkmghhmpkddaaDoorSwap
namespace Go.Proofs.YtlpkmghhmpkddaaDoor
open Go.RowKit
set_option linter.unusedVariables false

/-- A round of the rotation, where the left part is longer. -/
theorem rot_gt {P X Y S F : List Nat} (h : P ++ Y ++ X ++ S = F) (hl : Y.length < X.length) :
    ∃ X1 X2, P ++ X ++ Y ++ S = P ++ X1 ++ X2 ++ Y ++ S ∧ X1.length = Y.length ∧ X2.length = X.length - Y.length ∧ P ++ Y ++ X2 ++ X1 ++ S = (P ++ Y) ++ X2 ++ X1 ++ S ∧ (P ++ Y) ++ X1 ++ X2 ++ S = F := by
  refine ⟨X.take Y.length, X.drop Y.length, ?_, ?_, ?_, rfl, ?_⟩
  · conv => rhs; rw [List.append_assoc P, List.take_append_drop]
  · rw [List.length_take]; omega
  · rw [List.length_drop]
  · rw [List.append_assoc (P ++ Y), List.take_append_drop]; exact h
/-- And where the right part is longer. -/
theorem rot_lt {P X Y S F : List Nat} (h : P ++ Y ++ X ++ S = F) (hl : X.length < Y.length) :
    ∃ Y1 Y2, P ++ X ++ Y ++ S = P ++ X ++ Y1 ++ Y2 ++ S ∧ Y1.length = Y.length - X.length ∧ Y2.length = X.length ∧ P ++ Y2 ++ Y1 ++ X ++ S = P ++ Y2 ++ Y1 ++ (X ++ S) ∧ P ++ Y1 ++ Y2 ++ (X ++ S) = F := by
  refine ⟨Y.take (Y.length - X.length), Y.drop (Y.length - X.length), ?_, ?_, ?_, ?_, ?_⟩
  · conv => rhs; rw [List.append_assoc (P ++ X), List.take_append_drop]
  · rw [List.length_take]; omega
  · rw [List.length_drop]; omega
  · rw [List.append_assoc (P ++ _ ++ _)]
  · rw [List.append_assoc P, List.take_append_drop, ← List.append_assoc]; exact h
/-- What stands between two rounds. -/
structure RotI (w W : World) (g N m : Nat) (F : List Nat) (i j : Nat) : Prop where
  ex : ∃ P X Y S : List Nat, P ++ Y ++ X ++ S = F ∧ Srt w W g (P ++ X ++ Y ++ S) ∧ P.length + i = m ∧ X.length = i ∧ Y.length = j ∧ (P ++ X ++ Y ++ S).length = N
theorem swap_gt (g N c pt m i j : Nat) (F : List Nat) (w W : World) (h : RotI w W g N m F i j) (hN : N ≤ 100000) (hl : j < i) :
    Calls Tryd.prog 62 #[.slice (some ⟨g, 0, none⟩) N c, .int .i64 ((m : Int) - i), .int .i64 (m : Int), .int .i64 (j : Int), cmpV pt] W fun e w' => e = .returned (.tuple #[]) ∧ RotI w w' g N m F (i - j) j := by
  obtain ⟨P, X, Y, S, hF, hs, hm, hX, hY, hNl⟩ := h.ex
  obtain ⟨X1, X2, e1, l1, l2, e2, e3⟩ := rot_gt hF (by omega)
  rw [e1] at hs hNl
  rw [show (m : Int) - i = (P.length : Int) by omega]
  refine (swap_any g N c pt P.length m j P X1 X2 Y S W hs.bk hNl hN rfl (by omega) (by omega) hY).mono ?_
  rintro e w' ⟨rfl, h2⟩
  refine ⟨rfl, ⟨P ++ Y, X2, X1, S, e3, hs.trans h2, by rw [List.length_append]; omega, by omega, by omega, ?_⟩⟩
  simp only [List.length_append] at hNl ⊢; omega
theorem swap_lt (g N c pt m i j : Nat) (F : List Nat) (w W : World) (h : RotI w W g N m F i j) (hN : N ≤ 100000) (hl : i < j) :
    Calls Tryd.prog 62 #[.slice (some ⟨g, 0, none⟩) N c, .int .i64 ((m : Int) - i), .int .i64 ((m : Int) + j - i), .int .i64 (i : Int), cmpV pt] W fun e w' => e = .returned (.tuple #[]) ∧ RotI w w' g N m F i (j - i) := by
  obtain ⟨P, X, Y, S, hF, hs, hm, hX, hY, hNl⟩ := h.ex
  obtain ⟨Y1, Y2, e1, l1, l2, e2, e3⟩ := rot_lt hF (by omega)
  rw [e1] at hs hNl
  rw [show (m : Int) - i = (P.length : Int) by omega, show (m : Int) + j - i = ((m + j - i : Nat) : Int) by omega]
  refine (swap_any g N c pt P.length (m + j - i) i P X Y1 Y2 S W hs.bk hNl hN rfl (by omega) hX (by omega)).mono ?_
  rintro e w' ⟨rfl, h2⟩
  refine ⟨rfl, ⟨P, Y2, Y1, X ++ S, e3, ?_, hm, by omega, by omega, ?_⟩⟩
  · have h3 := hs.trans h2; rw [e2] at h3; exact h3
  · simp only [List.length_append] at hNl ⊢; omega
theorem swap_eq (g N c pt m i : Nat) (F : List Nat) (w W : World) (h : RotI w W g N m F i i) (hN : N ≤ 100000) :
    Calls Tryd.prog 62 #[.slice (some ⟨g, 0, none⟩) N c, .int .i64 ((m : Int) - i), .int .i64 (m : Int), .int .i64 (i : Int), cmpV pt] W fun e w' => e = .returned (.tuple #[]) ∧ SrtTo w w' g F := by
  obtain ⟨P, X, Y, S, hF, hs, hm, hX, hY, hNl⟩ := h.ex
  have e1 : P ++ X ++ Y ++ S = P ++ X ++ [] ++ Y ++ S := by rw [List.append_nil]
  rw [e1] at hs hNl
  rw [show (m : Int) - i = (P.length : Int) by omega]
  refine (swap_any g N c pt P.length m i P X [] Y S W hs.bk hNl hN rfl (by simp only [List.length_nil]; omega) hX hY).mono ?_
  rintro e w' ⟨rfl, h2⟩
  refine ⟨rfl, ?_⟩
  have h3 := hs.trans h2
  rw [List.append_nil, hF] at h3
  exact h3
theorem rot_bounds {w W : World} {g N m i j : Nat} {F : List Nat} (h : RotI w W g N m F i j) : i ≤ m ∧ m + j ≤ N := by
  obtain ⟨P, X, Y, S, hF, hs, hm, hX, hY, hNl⟩ := h.ex
  simp only [List.length_append] at hNl
  exact ⟨by omega, by omega⟩
set_option maxRecDepth 100000 in
set_option maxHeartbeats 4000000 in
theorem rot_any (g N c pt a m b : Nat) (P X Y S : List Nat) (w : World) (hg : Blk w g 3 (nC (P ++ X ++ Y ++ S))) (hN : (P ++ X ++ Y ++ S).length = N) (hN2 : N ≤ 100000) (ha : P.length = a) (hm : a + X.length = m) (hb : m + Y.length = b) (hX : 0 < X.length) (hY : 0 < Y.length) :
    Calls Tryd.prog 59 #[.slice (some ⟨g, 0, none⟩) N c, .int .i64 (a : Int), .int .i64 (m : Int), .int .i64 (b : Int), cmpV pt] w fun e w' => e = .returned (.tuple #[]) ∧ SrtTo w w' g (P ++ Y ++ X ++ S) := by
  obtain ⟨i0, hi0⟩ : ∃ i0, i0 = X.length := ⟨_, rfl⟩
  obtain ⟨j0, hj0⟩ : ∃ j0, j0 = Y.length := ⟨_, rfl⟩
  have H0 := Lib.hid (show RotI w w g N m (P ++ Y ++ X ++ S) i0 j0 from ⟨P, X, Y, S, rfl, ⟨hg, Fr.refl _ _, hg.lt⟩, by omega, hi0.symm, hj0.symm, hN⟩)
  have hia : (m : Int) - a = (i0 : Int) := by omega
  have hjb : (b : Int) - m = (j0 : Int) := by omega
  have hi : 0 < i0 := by omega
  have hj : 0 < j0 := by omega
  have hbN : b ≤ N := by rw [← hN]; simp only [List.length_append]; omega
  have hmb : m ≤ b := by omega
  have ham : a ≤ m := by omega
  have Hgt := Lib.hid (fun F i j W h hl => swap_gt g N c pt m i j F w W h hN2 hl)
  have Hlt := Lib.hid (fun F i j W h hl => swap_lt g N c pt m i j F w W h hN2 hl)
  have Heq := Lib.hid (fun F i W h => swap_eq g N c pt m i F w W h hN2)
  generalize P ++ Y ++ X ++ S = F at H0 ⊢
  clear hg hN ha hm hb hX hY hi0 hj0
  go_enter Tryd.func59, Tryd.ntmps59
  go_wp2
  go_loopw [10, 11] (fun iv jv wr => ∃ i j : Nat, 0 < i ∧ 0 < j ∧ iv = .int .i64 i ∧ jv = .int .i64 j ∧ RotI w wr g N m F i j) (fun iv jv _ => (intOf iv).toNat + (intOf jv).toNat)
  case atStart => exact ⟨i0, j0, hi, hj, by first | rfl | go_num, by first | rfl | go_num, H0.out⟩
  case round =>
    obtain ⟨i, j, hi', hj', rfl, rfl, hr⟩ := hrel
    obtain ⟨b1, b2⟩ := rot_bounds hr
    have HR := Lib.hid hr
    clear hr
    rcases Nat.lt_trichotomy i j with h | h | h
    · have hne : ((i : Int) != (j : Int)) = true := by rw [bne_iff_ne]; omega
      have hng : ¬ (j : Int) < (i : Int) := by omega
      go_wp2_with fail
      refine (Hlt.out F i j _ HR.out h).mono ?_
      rintro e w2 ⟨rfl, h2⟩
      have H2 := Lib.hid h2
      clear h2
      go_wp2
      go_roundw
      case rel => exact ⟨i, j - i, hi', by omega, rfl, by go_num, H2.out⟩
      case measure => simp [intOf]; omega
    · subst h
      have hne : ((i : Int) != (i : Int)) = false := by rw [bne_eq_false_iff_eq]
      go_wp2_with fail
      refine (Heq.out F i _ HR.out).mono ?_
      rintro e w2 ⟨rfl, h2⟩
      have H2 := Lib.hid h2
      clear h2
      go_wp2
      go_end0
      exact ⟨rfl, H2.out⟩
    · have hne : ((i : Int) != (j : Int)) = true := by rw [bne_iff_ne]; omega
      have hg : (j : Int) < (i : Int) := by omega
      go_wp2_with fail
      refine (Hgt.out F i j _ HR.out h).mono ?_
      rintro e w2 ⟨rfl, h2⟩
      have H2 := Lib.hid h2
      clear h2
      go_wp2
      go_roundw
      case rel => exact ⟨i - j, j, by omega, hj', by go_num, rfl, H2.out⟩
      case measure => simp [intOf]; omega
end Go.Proofs.YtlpkmghhmpkddaaDoor
