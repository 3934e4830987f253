/- What is read of values: which errors there are, and how many values. -/
import Derived.Test.YtfkklcmepcocoaaGreatDoorMaskRdQ
namespace Go.Proofs.YtfkklcmepcocoaaGreatDoor
open Go.RowKit
set_option linter.unusedVariables false

theorem body_err {S : List Bool} {fr : Bool} {w w' : Win} {q c : Nat} (h : bodyC S fr w w' q = .err c) : c = 0 ∨ c = 4 := by
  unfold bodyC at h
  split at h
  · injection h with h; omega
  · split at h
    · injection h with h; omega
    · cases h
theorem chg_err {S : List Bool} {w : Win} {q c : Nat} (h : chg S w q = .err c) : c = 0 ∨ c = 4 := by
  unfold chg at h
  split at h
  · injection h with h; omega
  split at h
  · cases h
  split at h
  · injection h with h; omega
  split at h
  · split at h
    · injection h with h; omega
    split at h
    · injection h with h; omega
    exact body_err h
  · split at h
    · injection h with h; omega
    exact body_err h
theorem rdM_errs {S : List Bool} : ∀ (n : Nat) (acc : List Nat) (w : Win) (q c : Nat), rdM S n acc w q = .err c → c = 0 ∨ c = 4 := by
  intro n
  induction n with
  | zero => intro acc w q c h; cases h
  | succ n ih =>
    intro acc w q c h
    simp only [rdM] at h
    split at h
    · split at h
      · injection h with h; omega
      · exact ih _ _ _ _ h
    · split at h
      · rename_i c' e
        injection h with h
        have := chg_err e
        omega
      · exact ih _ _ _ _ h
theorem rdM_len {S : List Bool} : ∀ (n : Nat) (acc : List Nat) (w : Win) (q : Nat) (l : List Nat) (p : Nat), rdM S n acc w q = .ok l p → l.length = acc.length + n := by
  intro n
  induction n with
  | zero => intro acc w q l p h; injection h with h1 h2; subst h1; rfl
  | succ n ih =>
    intro acc w q l p h
    simp only [rdM] at h
    split at h
    · rename_i h0
      split at h
      · cases h
      · have := ih _ _ _ _ _ h; rw [List.length_singleton] at this; omega
    · split at h
      · cases h
      · have := ih _ _ _ _ _ h; rw [List.length_append, List.length_singleton] at this; omega
theorem chg_le {S : List Bool} {w w' : Win} {q q' x : Nat} (h : chg S w q = .ok x w' q') : q ≤ q' ∧ q' ≤ S.length := by
  unfold chg at h
  split at h
  · cases h
  split at h
  · injection h with _ _ e; omega
  split at h
  · cases h
  split at h
  · split at h
    · cases h
    split at h
    · cases h
    unfold bodyC at h
    split at h
    · cases h
    split at h
    · cases h
    · injection h with _ _ e; omega
  · split at h
    · cases h
    unfold bodyC at h
    split at h
    · cases h
    split at h
    · cases h
    · injection h with _ _ e; omega
theorem chg_lt {S : List Bool} {w w' : Win} {q q' x : Nat} (hw : w = w0 ∨ w.Ok) (h : chg S w q = .ok x w' q') : x < 18446744073709551616 ∧ (w' = w0 ∨ w'.Ok) := by
  unfold chg at h
  split at h
  · cases h
  split at h
  · injection h with e1 e2 e3
    subst e1; subst e2
    exact ⟨by decide, hw⟩
  split at h
  · cases h
  split at h
  · split at h
    · cases h
    split at h
    · cases h
    rename_i h64
    unfold bodyC at h
    split at h
    · cases h
    split at h
    · cases h
    · rename_i hb
      injection h with e1 e2 e3
      subst e1; subst e2
      exact ⟨(x_hasW (fresh_ok h64) _ (vAt_lt _ _ _) (fun e => hb (.inl e))).1, .inr (fresh_ok h64)⟩
  · split at h
    · cases h
    rename_i hd
    have hok : w.Ok := by
      rcases hw with e | e
      · rw [e] at hd; exact absurd rfl hd
      · exact e
    unfold bodyC at h
    split at h
    · cases h
    split at h
    · cases h
    · rename_i hb
      injection h with e1 e2 e3
      subst e1; subst e2
      exact ⟨(x_hasW hok _ (vAt_lt _ _ _) (fun e => hb (.inl e))).1, hw⟩
theorem rdM_le {S : List Bool} : ∀ (n : Nat) (acc : List Nat) (w : Win) (q : Nat) (l : List Nat) (p : Nat), q ≤ S.length → rdM S n acc w q = .ok l p → q ≤ p ∧ p ≤ S.length := by
  intro n
  induction n with
  | zero => intro acc w q l p hq h; injection h with h1 h2; subst h2; exact ⟨Nat.le_refl _, hq⟩
  | succ n ih =>
    intro acc w q l p hq h
    simp only [rdM] at h
    split at h
    · split at h
      · cases h
      · have := ih _ _ _ _ _ (by omega) h; omega
    · split at h
      · cases h
      · rename_i e
        have h1 := chg_le e
        have := ih _ _ _ _ _ h1.2 h; omega
end Go.Proofs.YtfkklcmepcocoaaGreatDoor
