/- The reference's Wave and Unwave by contracts. -/
import Derived.Test.YtlpkmghhmpkddaaDoorRef
import Derived.Test.YtlpkmghhmpkddaaDoorWaveRd
import Derived.Deep.RegionHeld3
namespace Go.Proofs.YtlpkmghhmpkddaaDoor
open Go.RowKit
set_option linter.unusedVariables false

theorem txt_inj {a b : List Bool} (h : (txt a).toList = (txt b).toList) : a = b := by
  unfold txt at h
  rw [B8_toList, B8_toList] at h
  have : ∀ (a b : List Bool), a.map chB = b.map chB → a = b := by
    intro a
    induction a with
    | nil => intro b h; cases b with
      | nil => rfl
      | cons => simp at h
    | cons x a ih => intro b h; cases b with
      | nil => simp at h
      | cons y b =>
        simp only [List.map_cons, List.cons.injEq] at h
        obtain ⟨h1, h2⟩ := h
        rw [ih b h2]
        cases x <;> cases y <;> simp [chB] at h1 ⊢
  exact this a b h
theorem txt_ne {a b : List Bool} (h : a ≠ b) : ((txt a).toList == (txt b).toList) = false := by
  rw [beq_eq_false_iff_ne]; exact fun e => h (txt_inj e)
theorem txt_h0 : (⟨#[48]⟩ : ByteArray) = txt [false] := rfl
theorem txt_h1 : (⟨#[49, 48]⟩ : ByteArray) = txt [true, false] := rfl
theorem txt_h2 : (⟨#[49, 49, 48]⟩ : ByteArray) = txt [true, true, false] := rfl
theorem txt_h3 : (⟨#[49, 49, 49, 48]⟩ : ByteArray) = txt [true, true, true, false] := rfl
theorem txt_h4 : (⟨#[49, 49, 49, 49]⟩ : ByteArray) = txt [true, true, true, true] := rfl
theorem ofK_cases (n : Int) : (n = 0 ∧ ofK n = 0) ∨ (n ≠ 0 ∧ -64 < n ∧ n ≤ 64 ∧ ofK n = 1) ∨ (¬ (-64 < n ∧ n ≤ 64) ∧ -256 < n ∧ n ≤ 256 ∧ ofK n = 2) ∨ (¬ (-256 < n ∧ n ≤ 256) ∧ -2048 < n ∧ n ≤ 2048 ∧ ofK n = 3) ∨ (¬ (-2048 < n ∧ n ≤ 2048) ∧ ofK n = 4) := by
  unfold ofK
  repeat' split
  all_goals omega

end Go.Proofs.YtlpkmghhmpkddaaDoor
