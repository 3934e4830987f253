/- A head as a list of lines, series rising: plain facts. -/
import Derived.Test.YtlpkmghhmpkddaaDoorLabF
import Derived.Test.YtlpkmghhmpkddaaDoorBetween
namespace Go.Proofs.YtlpkmghhmpkddaaDoor
open Go.RowKit
set_option linter.unusedVariables false

theorem bytesLess_lt : ∀ (x y : Bs), Op.bytesLess x y = decide (x < y)
  | _, [] => by
    unfold Op.bytesLess
    symm
    exact decide_eq_false (List.not_lt_nil _)
  | [], b :: y => by
    unfold Op.bytesLess
    symm
    exact decide_eq_true (List.nil_lt_cons b y)
  | a :: x, b :: y => by
    unfold Op.bytesLess
    rw [bytesLess_lt x y, Bool.eq_iff_iff, decide_eq_true_iff, List.cons_lt_cons_iff]
    simp
theorem lt_irrefl_bs (x : Bs) : ¬ x < x := List.lt_irrefl x
theorem lt_asymm_bs {x y : Bs} (h : x < y) : ¬ y < x := fun h' => List.lt_irrefl x (List.lt_trans h h')
theorem lt_or_bs (x y : Bs) : x < y ∨ x = y ∨ y < x := by
  by_cases h1 : x < y
  · exact .inl h1
  · by_cases h2 : y < x
    · exact .inr (.inr h2)
    · exact .inr (.inl (List.le_antisymm (show x ≤ y from h2) (show y ≤ x from h1)))

/-- A line: its series, its points, its last tick ever. -/
abbrev HA := Bs × List (Int × Int) × Int
def tickB (t : Int) : Bool := decide (-1099511627776 ≤ t ∧ t ≤ 1099511627776)
def hFind (A : List HA) (s : Bs) : Option HA := A.find? fun x => x.1 == s
/-- What is wrong with a point that is to be added. -/
def hFault (A : List HA) (s : Bs) (p : Int × Int) : Nat × Int :=
  if (rdF s).1 ≠ 0 then rdF s else if tickB p.1 = false then (2, -1) else match hFind A s with
    | some x => if p.1 ≤ x.2.2 then (8, -1) else (0, -1)
    | none => if 60 ≤ A.length then (7, -1) else (0, -1)
/-- A new line at its place. -/
def hIns (A : List HA) (x : HA) : List HA := A.takeWhile (fun y => decide (y.1 < x.1)) ++ x :: A.dropWhile (fun y => decide (y.1 < x.1))
def hPut (A : List HA) (s : Bs) (p : Int × Int) : List HA := A.map fun x => if x.1 == s then (s, x.2.1 ++ [p], p.1) else x
def hAdd (A : List HA) (s : Bs) (p : Int × Int) : List HA := match hFind A s with
  | some _ => hPut A s p
  | none => hIns A (s, [p], p.1)
def hSeries (A : List HA) : List Bs := (A.filter fun x => decide (x.2.1 ≠ [])).map (·.1)
def hCount (A : List HA) : Nat := (A.map fun x => x.2.1.length).sum
def hPoints (A : List HA) (s : Bs) (f t : Int) : List (Int × Int) := match hFind A s with
  | some x => betL f t x.2.1
  | none => []
def hGone (b : Int) (l : List (Int × Int)) : List (Int × Int) := l.takeWhile fun p => decide (p.1 < b)
def hLeft (b : Int) (l : List (Int × Int)) : List (Int × Int) := l.dropWhile fun p => decide (p.1 < b)
/-- What is cut: series and points. -/
def hCutR (A : List HA) (b : Int) : List (Bs × List (Int × Int)) := (A.filter fun x => decide (hGone b x.2.1 ≠ [])).map fun x => (x.1, hGone b x.2.1)
def hCut (A : List HA) (b : Int) : List HA := A.map fun x => (x.1, hLeft b x.2.1, x.2.2)
/-- Series rise. -/
def hSrt (A : List HA) : Prop := A.Pairwise fun x y => x.1 < y.1

theorem hFind_mem {A : List HA} {s : Bs} {x : HA} (h : hFind A s = some x) : x ∈ A ∧ x.1 = s := by
  unfold hFind at h
  have h1 := List.mem_of_find?_eq_some h
  have h2 := List.find?_some h
  exact ⟨h1, by simpa using h2⟩
theorem hFind_none {A : List HA} {s : Bs} (h : hFind A s = none) : ∀ x ∈ A, x.1 ≠ s := by
  unfold hFind at h
  rw [List.find?_eq_none] at h
  intro x hx e
  exact h x hx (by simp [e])
theorem hFault_ok {A : List HA} {s : Bs} {p : Int × Int} (h : (hFault A s p).1 = 0) : (rdF s).1 = 0 ∧ tickB p.1 = true ∧ ((∃ x, hFind A s = some x ∧ x.2.2 < p.1) ∨ (hFind A s = none ∧ A.length < 60)) := by
  unfold hFault at h
  split at h
  · exact absurd h (by assumption)
  · rename_i h0
    split at h
    · cases h
    · rename_i h1
      refine ⟨by simpa using h0, by simpa using h1, ?_⟩
      cases hf : hFind A s with
      | some x =>
        rw [hf] at h
        have h : (if p.1 ≤ x.2.2 then ((8, -1) : Nat × Int) else (0, -1)).1 = 0 := h
        refine .inl ⟨x, rfl, ?_⟩
        by_cases h2 : p.1 ≤ x.2.2
        · rw [if_pos h2] at h; cases h
        · omega
      | none =>
        rw [hf] at h
        have h : (if 60 ≤ A.length then ((7, -1) : Nat × Int) else (0, -1)).1 = 0 := h
        refine .inr ⟨rfl, ?_⟩
        by_cases h2 : 60 ≤ A.length
        · rw [if_pos h2] at h; cases h
        · omega
theorem mem_takeWhile_lt {A : List HA} {s : Bs} {y : HA} (h : y ∈ A.takeWhile (fun y => decide (y.1 < s))) : y.1 < s := by
  induction A with
  | nil => cases h
  | cons a A ih =>
    rw [List.takeWhile_cons] at h
    split at h
    · rename_i ha
      rcases List.mem_cons.1 h with rfl | h
      · simpa using ha
      · exact ih h
    · cases h
theorem mem_dropWhile_gt {A : List HA} {s : Bs} (hs : hSrt A) (hn : ∀ x ∈ A, x.1 ≠ s) {y : HA} (h : y ∈ A.dropWhile (fun y => decide (y.1 < s))) : s < y.1 := by
  induction A with
  | nil => cases h
  | cons a A ih =>
    rw [List.dropWhile_cons] at h
    have hs' := List.pairwise_cons.1 hs
    split at h
    · exact ih hs'.2 (fun x hx => hn x (List.mem_cons_of_mem _ hx)) h
    · rename_i ha
      have h1 : ¬ a.1 < s := by simpa using ha
      have h2 : s < a.1 := by
        rcases lt_or_bs a.1 s with h | h | h
        · exact absurd h h1
        · exact absurd h (hn a List.mem_cons_self)
        · exact h
      rcases List.mem_cons.1 h with rfl | h
      · exact h2
      · exact List.lt_trans h2 (hs'.1 y h)
theorem hIns_srt {A : List HA} {x : HA} (hs : hSrt A) (hn : ∀ y ∈ A, y.1 ≠ x.1) : hSrt (hIns A x) := by
  unfold hSrt hIns
  rw [List.pairwise_append, List.pairwise_cons]
  refine ⟨List.Pairwise.sublist (List.takeWhile_sublist _) hs, ⟨fun y hy => mem_dropWhile_gt hs hn hy, List.Pairwise.sublist (List.dropWhile_sublist _) hs⟩, fun y hy z hz => ?_⟩
  have h1 := mem_takeWhile_lt hy
  rcases List.mem_cons.1 hz with rfl | hz
  · exact h1
  · exact List.lt_trans h1 (mem_dropWhile_gt hs hn hz)
theorem hIns_mem {A : List HA} {x y : HA} : y ∈ hIns A x ↔ y = x ∨ y ∈ A := by
  unfold hIns
  rw [List.mem_append, List.mem_cons]
  have e : y ∈ A ↔ y ∈ A.takeWhile (fun y => decide (y.1 < x.1)) ∨ y ∈ A.dropWhile (fun y => decide (y.1 < x.1)) := by
    rw [← List.mem_append, List.takeWhile_append_dropWhile]
  rw [e]
  constructor
  · rintro (h | h | h)
    · exact .inr (.inl h)
    · exact .inl h
    · exact .inr (.inr h)
  · rintro (h | h | h)
    · exact .inr (.inl h)
    · exact .inl h
    · exact .inr (.inr h)
theorem hIns_len (A : List HA) (x : HA) : (hIns A x).length = A.length + 1 := by
  unfold hIns
  have e := congrArg List.length (List.takeWhile_append_dropWhile (p := fun y : HA => decide (y.1 < x.1)) (l := A))
  rw [List.length_append] at e
  rw [List.length_append, List.length_cons]; omega
theorem hPut_names (A : List HA) (s : Bs) (p : Int × Int) : (hPut A s p).map (·.1) = A.map (·.1) := by
  unfold hPut
  rw [List.map_map]
  apply List.map_congr_left
  intro x _
  simp only [Function.comp]
  split
  · rename_i h; simpa using (by simpa using h : x.1 = s).symm
  · rfl
theorem srt_names {A B : List HA} (h : A.map (·.1) = B.map (·.1)) (hs : hSrt A) : hSrt B := by
  unfold hSrt at *
  have h1 : (A.map (·.1)).Pairwise (fun x y : Bs => x < y) := by rw [List.pairwise_map]; exact hs
  rw [h, List.pairwise_map] at h1
  exact h1
theorem hAdd_srt {A : List HA} {s : Bs} {p : Int × Int} (hs : hSrt A) : hSrt (hAdd A s p) := by
  unfold hAdd
  cases hf : hFind A s with
  | some x => exact srt_names (hPut_names A s p).symm hs
  | none => exact hIns_srt hs (hFind_none hf)
theorem hCut_srt {A : List HA} {b : Int} (hs : hSrt A) : hSrt (hCut A b) := srt_names (by unfold hCut; rw [List.map_map]; rfl) hs
end Go.Proofs.YtlpkmghhmpkddaaDoor
