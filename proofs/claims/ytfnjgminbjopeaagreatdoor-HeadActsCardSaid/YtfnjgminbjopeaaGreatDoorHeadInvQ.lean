/- What holds of every head: plain facts. -/
import Derived.Test.YtfnjgminbjopeaaGreatDoorHeadNQ
namespace Go.Proofs.YtfnjgminbjopeaaGreatDoor
open Go.RowKit
set_option linter.unusedVariables false

theorem hFind_of_mem {A : List HA} (hs : hSrt A) {x : HA} (hx : x ∈ A) : hFind A x.1 = some x := by
  induction A with
  | nil => cases hx
  | cons a A ih =>
    have hs' := List.pairwise_cons.1 hs
    unfold hFind
    rw [List.find?_cons]
    rcases List.mem_cons.1 hx with rfl | hx
    · simp
    · have : a.1 ≠ x.1 := fun e => by have := hs'.1 x hx; rw [e] at this; exact lt_irrefl_bs _ this
      have e : (a.1 == x.1) = false := by simpa using this
      rw [e]
      exact ih hs'.2 hx
theorem hPut_other {A : List HA} {s : Bs} (h : ∀ x ∈ A, x.1 ≠ s) (p : Int × Int) : hPut A s p = A := by
  unfold hPut
  conv => rhs; rw [← List.map_id A]
  apply List.map_congr_left
  intro y hy
  rw [if_neg (by simpa using h y hy)]; rfl
theorem hCount_cons (x : HA) (A : List HA) : hCount (x :: A) = x.2.1.length + hCount A := by unfold hCount; rw [List.map_cons, List.sum_cons]
theorem hCount_app (A B : List HA) : hCount (A ++ B) = hCount A + hCount B := by unfold hCount; rw [List.map_append, List.sum_append]
theorem hCount_put {A : List HA} (hs : hSrt A) {s : Bs} {x : HA} (hx : x ∈ A) (hn : x.1 = s) (p : Int × Int) : hCount (hPut A s p) = hCount A + 1 := by
  induction A with
  | nil => cases hx
  | cons a A ih =>
    have hs' := List.pairwise_cons.1 hs
    by_cases e : a.1 = s
    · have hA : hPut A s p = A := hPut_other (fun y hy e2 => by have := hs'.1 y hy; rw [e, e2] at this; exact lt_irrefl_bs _ this) p
      unfold hPut at hA ⊢
      rw [List.map_cons, hA, if_pos (by simpa using e), hCount_cons, hCount_cons]
      simp
      omega
    · have hx' : x ∈ A := by
        rcases List.mem_cons.1 hx with rfl | h
        · exact absurd hn e
        · exact h
      have := ih hs'.2 hx'
      unfold hPut at this ⊢
      rw [List.map_cons, if_neg (by simpa using e), hCount_cons, hCount_cons, this]
      omega
theorem hCount_ins (A : List HA) (x : HA) : hCount (hIns A x) = hCount A + x.2.1.length := by
  unfold hIns
  rw [hCount_app, hCount_cons]
  have e := hCount_app (A.takeWhile fun y => decide (y.1 < x.1)) (A.dropWhile fun y => decide (y.1 < x.1))
  rw [List.takeWhile_append_dropWhile] at e
  omega
theorem hCount_add {A : List HA} (hs : hSrt A) (s : Bs) (p : Int × Int) : hCount (hAdd A s p) = hCount A + 1 := by
  unfold hAdd
  cases hf : hFind A s with
  | some x => exact hCount_put hs (hFind_mem hf).1 (hFind_mem hf).2 p
  | none => exact hCount_ins A _
theorem hPut_len (A : List HA) (s : Bs) (p : Int × Int) : (hPut A s p).length = A.length := by unfold hPut; rw [List.length_map]
theorem hAdd_len {A : List HA} {s : Bs} {p : Int × Int} (h : (hFault A s p).1 = 0) (hl : A.length ≤ 60) : (hAdd A s p).length ≤ 60 := by
  obtain ⟨_, _, h | h⟩ := hFault_ok h
  · obtain ⟨x, hx, _⟩ := h
    unfold hAdd
    rw [hx]
    show (hPut A s p).length ≤ 60
    rw [hPut_len]; exact hl
  · unfold hAdd
    rw [h.1]
    show (hIns A (s, [p], p.1)).length ≤ 60
    rw [hIns_len]; omega
theorem hAdd_mem {A : List HA} {s : Bs} {p : Int × Int} {y : HA} (hs : hSrt A) (h : y ∈ hAdd A s p) : y ∈ A ∨ (∃ x ∈ A, hFind A s = some x ∧ y = (s, x.2.1 ++ [p], p.1)) ∨ (hFind A s = none ∧ y = (s, [p], p.1)) := by
  unfold hAdd at h
  cases hf : hFind A s with
  | some x =>
    rw [hf] at h
    obtain ⟨z, hz, e⟩ := List.mem_map.1 (show y ∈ hPut A s p from h)
    by_cases e2 : z.1 = s
    · rw [if_pos (by simpa using e2)] at e
      have := hFind_of_mem hs hz
      rw [e2, hf] at this
      exact .inr (.inl ⟨z, hz, this, e.symm⟩)
    · rw [if_neg (by simpa using e2)] at e
      exact .inl (by rw [← e]; exact hz)
  | none =>
    rw [hf] at h
    rcases hIns_mem.1 (show y ∈ hIns A (s, [p], p.1) from h) with h | h
    · exact .inr (.inr ⟨rfl, h⟩)
    · exact .inl h
/-- Points rise, and end at the last tick at the latest. -/
def HInv (A : List HA) : Prop := ∀ x ∈ A, x.2.1.Pairwise (fun p q => p.1 < q.1) ∧ ∀ p ∈ x.2.1, p.1 ≤ x.2.2 ∧ tickB p.1 = true
theorem HInv.nil : HInv [] := fun x h => by cases h
theorem HInv.add {A : List HA} (h : HInv A) (hs : hSrt A) {s : Bs} {p : Int × Int} (hf : (hFault A s p).1 = 0) : HInv (hAdd A s p) := by
  obtain ⟨_, htk, hw⟩ := hFault_ok hf
  intro y hy
  rcases hAdd_mem hs hy with hy | ⟨x, hx, hfx, rfl⟩ | ⟨hn, rfl⟩
  · exact h y hy
  · obtain ⟨h1, h2⟩ := h x hx
    have hlt : x.2.2 < p.1 := by
      rcases hw with ⟨z, hz, hlt⟩ | ⟨hz, _⟩
      · rw [hfx] at hz; injection hz with hz; rw [hz]; exact hlt
      · rw [hfx] at hz; cases hz
    refine ⟨?_, fun q hq => ?_⟩
    · rw [List.pairwise_append]
      refine ⟨h1, List.pairwise_singleton _ _, fun a ha b hb => ?_⟩
      obtain rfl := List.mem_singleton.1 hb
      have := (h2 a ha).1
      omega
    · rcases List.mem_append.1 hq with hq | hq
      · exact ⟨by have := (h2 q hq).1; show q.1 ≤ p.1; omega, (h2 q hq).2⟩
      · obtain rfl := List.mem_singleton.1 hq
        exact ⟨Int.le_refl _, htk⟩
  · refine ⟨List.pairwise_singleton _ _, fun q hq => ?_⟩
    obtain rfl := List.mem_singleton.1 hq
    exact ⟨Int.le_refl _, htk⟩
theorem HInv.cut {A : List HA} (h : HInv A) (b : Int) : HInv (hCut A b) := by
  intro y hy
  obtain ⟨x, hx, rfl⟩ := List.mem_map.1 hy
  obtain ⟨h1, h2⟩ := h x hx
  exact ⟨h1.sublist (List.dropWhile_sublist _), fun p hp => h2 p ((List.dropWhile_sublist _).subset hp)⟩
theorem bet_all {l : List (Int × Int)} (h : ∀ p ∈ l, tickB p.1 = true) : betL (-1099511627776) 1099511627776 l = l := by
  unfold betL
  refine List.filter_eq_self.2 fun p hp => ?_
  have := h p hp
  unfold tickB at this
  simp at this ⊢
  omega
theorem gone_left_len (b : Int) (l : List (Int × Int)) : (hGone b l).length + (hLeft b l).length = l.length := by
  have e := List.takeWhile_append_dropWhile (p := fun p : Int × Int => decide (p.1 < b)) (l := l)
  have e2 := congrArg List.length e
  rw [List.length_append] at e2
  exact e2
theorem gone_lt {b : Int} {l : List (Int × Int)} {p : Int × Int} (h : p ∈ hGone b l) : p.1 < b := by
  unfold hGone at h
  induction l with
  | nil => cases h
  | cons a l ih =>
    rw [List.takeWhile_cons] at h
    split at h
    · rename_i ha
      rcases List.mem_cons.1 h with rfl | h
      · simpa using ha
      · exact ih h
    · cases h
/-- How many points the rows have. -/
def rowsCnt (R : List (Bs × List (Int × Int))) : Nat := (R.map fun r => r.2.length).sum
theorem cut_count (A : List HA) (b : Int) : hCount A = hCount (hCut A b) + rowsCnt (hCutR A b) := by
  induction A with
  | nil => rfl
  | cons x A ih =>
    have e1 : hCut (x :: A) b = (x.1, hLeft b x.2.1, x.2.2) :: hCut A b := rfl
    have e2 : rowsCnt (hCutR (x :: A) b) = (hGone b x.2.1).length + rowsCnt (hCutR A b) := by
      unfold hCutR rowsCnt
      rw [List.filter_cons]
      by_cases h : hGone b x.2.1 = []
      · simp [h]
      · simp [h]
    rw [e1, hCount_cons, hCount_cons, e2, ih]
    have := gone_left_len b x.2.1
    show _ = (hLeft b x.2.1).length + _ + _
    omega
theorem cutR_gone {A : List HA} {b : Int} {r : Bs × List (Int × Int)} (h : r ∈ hCutR A b) : ∀ p ∈ r.2, p.1 < b := by
  obtain ⟨x, hx, rfl⟩ := List.mem_map.1 h
  exact fun p hp => gone_lt hp
/-- Lines that have points, counted. -/
theorem count_series (A : List HA) : hCount A = ((A.filter fun x => decide (x.2.1 ≠ [])).map fun x => x.2.1.length).sum := by
  induction A with
  | nil => rfl
  | cons x A ih =>
    rw [hCount_cons, List.filter_cons, ih]
    by_cases h : x.2.1 = []
    · simp [h]
    · simp [h]
end Go.Proofs.YtfnjgminbjopeaaGreatDoor
