/- label.Text's contract in the words of lbF. -/
import Derived.Test.YtlpkmghhmpkddaaDoorLabF
import Derived.Test.YtlpkmghhmpkddaaDoorLabText
namespace Go.Proofs.YtlpkmghhmpkddaaDoor
open Go.RowKit
set_option linter.unusedVariables false

theorem ltext_u {es : Nat → Addr} {B : Nat} (A : Option Addr) (n c : Nat) (l : List Lb) (w : World) (hS : SVL es B w) (hB0 : B ≤ w.heap.size) (hA : Rd w w.heap.size 2 A n (lbC l)) :
    Calls Tryd.prog 15 #[.slice A n c] w fun e w' => ∃ v, e = .returned (.tuple #[.string (B8 (if (lbF l).1 = 0 then textL l else [])), v]) ∧ EV es w.heap.size w' v (lbF l) ∧ Below w.heap.size w w' := by
  have hlen : l.length = n := by have := hA.1; rw [lbC_len] at this; omega
  rcases lbF_cases l with ⟨h, e⟩ | ⟨h, e⟩ | ⟨i, h1, h2, h3, h4, h5, e⟩ | ⟨h1, h2, h3, e⟩
  · subst h
    obtain rfl : n = 0 := by simpa using hlen.symm
    refine (text_none A c w hS).mono ?_
    rintro e' w' ⟨rfl, rfl⟩
    exact ⟨_, by rw [e]; rfl, .inr (.inl ⟨4, by decide, e, rfl⟩), Below.refl _ _⟩
  · refine (text_long A n c w hS (by omega)).mono ?_
    rintro e' w' ⟨rfl, rfl⟩
    exact ⟨_, by rw [e]; rfl, .inr (.inl ⟨1, by decide, e, rfl⟩), Below.refl _ _⟩
  · refine (text_bad A n c l i w hS hB0 hA (by omega) (by omega) (by omega) h4 h5).mono ?_
    rintro e' w' ⟨pb, rfl, g1, g2, g3, g4, hb⟩
    exact ⟨_, by rw [e, if_neg (by simp)]; rfl, .inr (.inr ⟨lbCode l i, pb, i, by have := lbCode_lt l i; omega, e, rfl, g1, g2, g3, g4⟩), hb⟩
  · refine (text_ok A n c l w hS hB0 hA (by omega) (by omega) (by rw [← hlen]; exact h3)).mono ?_
    rintro e' w' ⟨rfl, hb⟩
    exact ⟨_, by rw [e, if_pos rfl], .inl ⟨e, rfl⟩, hb⟩
end Go.Proofs.YtlpkmghhmpkddaaDoor
