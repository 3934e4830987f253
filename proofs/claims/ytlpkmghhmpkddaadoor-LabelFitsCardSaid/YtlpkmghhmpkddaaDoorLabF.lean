/- What is wrong with labels, as one function; the contracts of label.Check, Read and of the reference's LabelsFault in its words. -/
import Derived.Test.YtlpkmghhmpkddaaDoorLabRead
namespace Go.Proofs.YtlpkmghhmpkddaaDoor
open Go.RowKit
set_option linter.unusedVariables false

/-- The first label that is not well. -/
def badL (l : List Lb) : Option Nat := (List.range l.length).find? fun i => decide (¬ lbOk l i)
theorem badL_some {l : List Lb} {i : Nat} (h : badL l = some i) : i < l.length ∧ (∀ j, j < i → lbOk l j) ∧ ¬ lbOk l i := by
  unfold badL at h
  rw [List.find?_range_eq_some] at h
  obtain ⟨h1, h2, h3⟩ := h
  refine ⟨by simpa using h2, fun j hj => ?_, by simpa using h1⟩
  have := h3 j hj
  simpa using this
theorem badL_none {l : List Lb} (h : badL l = none) : ∀ j, j < l.length → lbOk l j := by
  unfold badL at h
  rw [List.find?_range_eq_none] at h
  intro j hj
  have := h j hj
  simpa using this
theorem badL_mk {l : List Lb} {i : Nat} (h1 : i < l.length) (h2 : ∀ j, j < i → lbOk l j) (h3 : ¬ lbOk l i) : badL l = some i := by
  cases h : badL l with
  | none => exact absurd (badL_none h i h1) h3
  | some k =>
    obtain ⟨g1, g2, g3⟩ := badL_some h
    rcases Nat.lt_trichotomy i k with hh | hh | hh
    · exact absurd (g2 i hh) h3
    · rw [hh]
    · exact absurd (h2 k hh) g3
/-- What is wrong with labels: its number, and its place (0: nothing). -/
def lbF (l : List Lb) : Nat × Int := if l.length = 0 then (5, -1) else if 6 < l.length then (2, -1) else match badL l with
  | some i => (lbCode l i + 1, i)
  | none => (0, -1)
theorem lbF_cases (l : List Lb) : (l = [] ∧ lbF l = (5, -1)) ∨ (6 < l.length ∧ lbF l = (2, -1)) ∨ (∃ i, 1 ≤ l.length ∧ l.length ≤ 6 ∧ i < l.length ∧ (∀ j, j < i → lbOk l j) ∧ ¬ lbOk l i ∧ lbF l = (lbCode l i + 1, (i : Int))) ∨ (1 ≤ l.length ∧ l.length ≤ 6 ∧ (∀ j, j < l.length → lbOk l j) ∧ lbF l = (0, -1)) := by
  unfold lbF
  by_cases h0 : l.length = 0
  · exact .inl ⟨List.length_eq_zero_iff.1 h0, by rw [if_pos h0]⟩
  rw [if_neg h0]
  by_cases h6 : 6 < l.length
  · exact .inr (.inl ⟨h6, by rw [if_pos h6]⟩)
  rw [if_neg h6]
  cases h : badL l with
  | some i =>
    obtain ⟨g1, g2, g3⟩ := badL_some h
    exact .inr (.inr (.inl ⟨i, by omega, by omega, g1, g2, g3, rfl⟩))
  | none => exact .inr (.inr (.inr ⟨by omega, by omega, badL_none h, rfl⟩))
/-- Of a text. -/
def rdF (s : Bs) : Nat × Int := match parseL s with
  | none => (1, -1)
  | some l => lbF l
theorem rdF_none {s : Bs} (h : parseL s = none) : rdF s = (1, -1) := by unfold rdF; rw [h]
theorem rdF_some {s : Bs} {l : List Lb} (h : parseL s = some l) : rdF s = lbF l := by unfold rdF; rw [h]
theorem parse_ne {s : Bs} {l : List Lb} (h : parseL s = some l) : l ≠ [] := by
  rintro rfl
  have := mapM_cut h
  exact splitC_ne 44 s this
theorem lbCode_lt (l : List Lb) (i : Nat) : lbCode l i = 2 ∨ lbCode l i = 3 := by unfold lbCode; split <;> simp

/-- The error v says c: its number and place (0: none). -/
def EV (es : Nat → Addr) (B : Nat) (W : World) (v : Value) (c : Nat × Int) : Prop :=
  (c = (0, -1) ∧ v = .nilIface) ∨ (∃ k, k < 11 ∧ c = (k + 1, -1) ∧ v = sentV (es k)) ∨
  (∃ k pb t, k < 11 ∧ c = (k + 1, t) ∧ v = faultV ⟨pb, 0, none⟩ ∧ B ≤ pb ∧ pb < W.heap.size ∧ W.cell? ⟨pb, 0, none⟩ = some (.int .i64 t) ∧ W.cell? ⟨pb, 1, none⟩ = some (sentV (es k)))
theorem EV.is {es : Nat → Addr} {B C : Nat} {W : World} {v : Value} {c : Nat × Int} (h : EV es B W v c) (hS : Sents es C W) : ErrIs es W v (c.1 : Int) c.2 := by
  rcases h with ⟨rfl, rfl⟩ | ⟨k, hk, rfl, rfl⟩ | ⟨k, pb, t, hk, rfl, rfl, _, h1, h2, h3⟩
  · exact ErrIs.nil
  · have := ErrIs.sent hS hk
    simpa using this
  · have := ErrIs.fault hS hk h1 h2 h3
    simpa using this
theorem EV.below {es : Nat → Addr} {B C : Nat} {W W' : World} {v : Value} {c : Nat × Int} (h : EV es B W v c) (hb : Below C W W') (hC : W.heap.size ≤ C) : EV es B W' v c := by
  rcases h with h | h | ⟨k, pb, t, hk, h1, h2, h3, h4, h5, h6⟩
  · exact .inl h
  · exact .inr (.inl h)
  · exact .inr (.inr ⟨k, pb, t, hk, h1, h2, h3, Nat.lt_of_lt_of_le h4 hb.size, (hb.cell (p := ⟨pb, 0, none⟩) (Nat.lt_of_lt_of_le h4 hC)).trans h5, (hb.cell (p := ⟨pb, 1, none⟩) (Nat.lt_of_lt_of_le h4 hC)).trans h6⟩)
theorem EV.base {es : Nat → Addr} {B B' : Nat} {W : World} {v : Value} {c : Nat × Int} (h : EV es B W v c) (hB : B' ≤ B) : EV es B' W v c := by
  rcases h with h | h | ⟨k, pb, t, hk, h1, h2, h3, h4⟩
  · exact .inl h
  · exact .inr (.inl h)
  · exact .inr (.inr ⟨k, pb, t, hk, h1, h2, by omega, h4⟩)
theorem EV.zero {es : Nat → Addr} {B : Nat} {W : World} {v : Value} {c : Nat × Int} (h : EV es B W v c) (h0 : c.1 = 0) : v = .nilIface := by
  rcases h with h | ⟨k, _, rfl, _⟩ | ⟨k, pb, t, _, rfl, _⟩
  · exact h.2
  · simp at h0
  · simp at h0
theorem EV.pos {es : Nat → Addr} {B : Nat} {W : World} {v : Value} {c : Nat × Int} (h : EV es B W v c) (h0 : c.1 ≠ 0) : ∃ t p, v = .iface t p := by
  rcases h with ⟨rfl, _⟩ | ⟨k, _, _, rfl⟩ | ⟨k, pb, t, _, _, rfl, _⟩
  · exact absurd rfl h0
  · exact ⟨_, _, rfl⟩
  · exact ⟨_, _, rfl⟩

theorem lcheck_u {es : Nat → Addr} {B : Nat} (A : Option Addr) (n c : Nat) (l : List Lb) (w : World) (hS : SVL es B w) (hB0 : B ≤ w.heap.size) (hA : Rd w w.heap.size 2 A n (lbC l)) :
    Calls Tryd.prog 16 #[.slice A n c] w fun e w' => ∃ v, e = .returned v ∧ EV es w.heap.size w' v (lbF l) ∧ Below w.heap.size w w' := by
  have hlen : l.length = n := by have := hA.1; rw [lbC_len] at this; omega
  rcases lbF_cases l with ⟨h, e⟩ | ⟨h, e⟩ | ⟨i, h1, h2, h3, h4, h5, e⟩ | ⟨h1, h2, h3, e⟩
  · subst h
    obtain rfl : n = 0 := by simpa using hlen.symm
    refine (lcheck_none A c w hS).mono ?_
    rintro e' w' ⟨rfl, rfl⟩
    exact ⟨_, rfl, .inr (.inl ⟨4, by decide, e, rfl⟩), Below.refl _ _⟩
  · refine (lcheck_long A n c w hS (by omega)).mono ?_
    rintro e' w' ⟨rfl, rfl⟩
    exact ⟨_, rfl, .inr (.inl ⟨1, by decide, e, rfl⟩), Below.refl _ _⟩
  · refine (lcheck_any A n c l i w hS hB0 hA (by omega) (by omega) (by omega) h4 (fun _ => h5)).mono ?_
    rintro e' w' ⟨_, g, hb⟩
    obtain ⟨pb, rfl, g1, g2, g3, g4⟩ := g (by omega)
    exact ⟨_, rfl, .inr (.inr ⟨lbCode l i, pb, i, by have := lbCode_lt l i; omega, e, rfl, g1, g2, g3, g4⟩), hb⟩
  · refine (lcheck_any A n c l n w hS hB0 hA (by omega) (by omega) (Nat.le_refl _) (by rw [← hlen]; exact h3) (fun h => absurd h (Nat.lt_irrefl _))).mono ?_
    rintro e' w' ⟨g, _, hb⟩
    exact ⟨_, g rfl, .inl ⟨e, rfl⟩, hb⟩
/-- A fault of the reference's, as a value. -/
def fV (c : Nat × Int) : Value := .agg #[.int .i64 (c.1 : Int), .int .i64 c.2]
theorem labelsFault_u (A : Option Addr) (n c : Nat) (l : List Lb) (w : World) (hA : Rd w w.heap.size 2 A n (lbC l)) (hlen : ∀ p ∈ l, p.1.length ≤ 100000 ∧ p.2.length ≤ 100000) :
    Calls Tryd.prog 7 #[.slice A n c] w fun e w' => e = .returned (fV (lbF l)) ∧ Below w.heap.size w w' := by
  have hln : l.length = n := by have := hA.1; rw [lbC_len] at this; omega
  rcases lbF_cases l with ⟨h, e⟩ | ⟨h, e⟩ | ⟨i, h1, h2, h3, h4, h5, e⟩ | ⟨h1, h2, h3, e⟩
  · subst h
    obtain rfl : n = 0 := by simpa using hln.symm
    refine (labelsFault_none A c w).mono ?_
    rintro e' w' ⟨rfl, hb⟩
    exact ⟨by rw [e]; rfl, hb⟩
  · refine (labelsFault_long A n c w (by omega)).mono ?_
    rintro e' w' ⟨rfl, hb⟩
    exact ⟨by rw [e]; rfl, hb⟩
  · refine (labelsFault_any A n c l i w hA (by omega) (by omega) (by omega) h4 (fun _ => h5) hlen).mono ?_
    rintro e' w' ⟨rfl, hb⟩
    exact ⟨by rw [e, lfV_bad n i _ _ (by omega) rfl]; rfl, hb⟩
  · refine (labelsFault_any A n c l n w hA (by omega) (by omega) (Nat.le_refl _) (by rw [← hln]; exact h3) (fun h => absurd h (Nat.lt_irrefl _)) hlen).mono ?_
    rintro e' w' ⟨rfl, hb⟩
    exact ⟨by rw [e, lfV_ok]; rfl, hb⟩
end Go.Proofs.YtlpkmghhmpkddaaDoor
