/- Merging two sorted parts in place, as Go's slices package does it: plain. -/
import Derived.Test.YtlpkmghhmpkddaaDoorHeadN
namespace Go.Proofs.YtlpkmghhmpkddaaDoor
open Go.RowKit
set_option linter.unusedVariables false

/-- By text, then by number. -/
def pre (t : Nat → Bs) (x y : Nat) : Prop := t x < t y ∨ (t x = t y ∧ x < y)
section
variable {t : Nat → Bs}
theorem pre.trans {x y z : Nat} (h : pre t x y) (k : pre t y z) : pre t x z := by
  rcases h with h | ⟨h, h2⟩
  · rcases k with k | ⟨k, k2⟩
    · exact .inl (List.lt_trans h k)
    · exact .inl (by rw [← k]; exact h)
  · rcases k with k | ⟨k, k2⟩
    · exact .inl (by rw [h]; exact k)
    · exact .inr ⟨h.trans k, by omega⟩
theorem pre_right {l r : Nat} (h : l < r) (k : t r < t l) : pre t r l := .inl k
theorem pre_left {l r : Nat} (h : l < r) (k : ¬ t r < t l) : pre t l r := by
  rcases lt_or_bs (t l) (t r) with h1 | h1 | h1
  · exact .inl h1
  · exact .inr ⟨h1, h⟩
  · exact absurd h1 k
/-- Two parts, each sorted; all of the left one are lesser numbers. -/
structure SymIn (t : Nat → Bs) (L R : List Nat) : Prop where
  sl : L.Pairwise (pre t)
  sr : R.Pairwise (pre t)
  lr : ∀ x ∈ L, ∀ y ∈ R, x < y
def SymOut (t : Nat → Bs) (L R M : List Nat) : Prop := M.Perm (L ++ R) ∧ M.Pairwise (pre t)
theorem take_le {L : List Nat} (h : L.Pairwise (pre t)) {s x : Nat} (hs : 0 < s) (hl : s ≤ L.length) (hx : x ∈ L.take s) : x = L.getD (s - 1) 0 ∨ pre t x (L.getD (s - 1) 0) := by
  obtain ⟨i, hi, rfl⟩ := List.getElem_of_mem hx
  rw [List.length_take] at hi
  rw [List.getElem_take, List.getD_eq_getElem?_getD, List.getElem?_eq_getElem (by omega)]
  rcases Nat.lt_or_ge i (s - 1) with h1 | h1
  · exact .inr (List.pairwise_iff_getElem.1 h i (s - 1) (by omega) (by omega) h1)
  · obtain rfl : i = s - 1 := by omega
    exact .inl rfl
theorem drop_ge {R : List Nat} (h : R.Pairwise (pre t)) {e y : Nat} (he : e < R.length) (hy : y ∈ R.drop e) : R.getD e 0 = y ∨ pre t (R.getD e 0) y := by
  obtain ⟨i, hi, rfl⟩ := List.getElem_of_mem hy
  rw [List.length_drop] at hi
  rw [List.getElem_drop, List.getD_eq_getElem?_getD, List.getElem?_eq_getElem he]
  rcases Nat.eq_zero_or_pos i with h1 | h1
  · subst h1; exact .inl rfl
  · exact .inr (List.pairwise_iff_getElem.1 h e (e + i) he (by omega) (by omega))
theorem cross {L R : List Nat} {s e : Nat} (hL : L.Pairwise (pre t)) (hR : R.Pairwise (pre t)) (hs : s ≤ L.length) (he : e ≤ R.length) (h : s = 0 ∨ e = R.length ∨ pre t (L.getD (s - 1) 0) (R.getD e 0)) :
    ∀ x ∈ L.take s, ∀ y ∈ R.drop e, pre t x y := by
  intro x hx y hy
  rcases h with h | h | h
  · subst h; cases hx
  · rw [List.drop_of_length_le (by omega)] at hy; cases hy
  · have hs0 : 0 < s := by
      rcases Nat.eq_zero_or_pos s with h0 | h0
      · subst h0; cases hx
      · exact h0
    have he0 : e < R.length := by
      rcases Nat.lt_or_ge e R.length with h0 | h0
      · exact h0
      · rw [List.drop_of_length_le h0] at hy; cases hy
    rcases take_le hL hs0 hs hx with h1 | h1
    · rcases drop_ge hR he0 hy with h2 | h2
      · rw [h1, ← h2]; exact h
      · rw [h1]; exact h.trans h2
    · rcases drop_ge hR he0 hy with h2 | h2
      · rw [← h2]; exact h1.trans h
      · exact (h1.trans h).trans h2
theorem sym_one_l {x : Nat} {R : List Nat} (h : SymIn t [x] R) {i : Nat} (hi : i ≤ R.length) (h1 : i = 0 ∨ pre t (R.getD (i - 1) 0) x) (h2 : i = R.length ∨ pre t x (R.getD i 0)) : SymOut t [x] R (R.take i ++ x :: R.drop i) := by
  have c1 : ∀ y ∈ R.take i, pre t y x := fun y hy => by
    have := cross (L := R) (R := [x]) (s := i) (e := 0) h.sr h.sl hi (Nat.zero_le _) (h1.elim (fun h1 => .inl h1) (fun h1 => .inr (.inr h1))) y hy x (by simp)
    exact this
  have c2 : ∀ y ∈ R.drop i, pre t x y := fun y hy => by
    have := cross (L := [x]) (R := R) (s := 1) (e := i) h.sl h.sr (Nat.le_refl _) hi (h2.elim (fun h2 => .inr (.inl h2)) (fun h2 => .inr (.inr h2))) x (by simp) y hy
    exact this
  refine ⟨?_, ?_⟩
  · refine List.perm_middle.trans ?_
    rw [List.take_append_drop]
    exact List.Perm.refl _
  · have hp := h.sr
    rw [← List.take_append_drop i R, List.pairwise_append] at hp
    refine List.pairwise_append.2 ⟨hp.1, List.pairwise_cons.2 ⟨c2, hp.2.1⟩, fun a ha b hb => ?_⟩
    rcases List.mem_cons.1 hb with rfl | hb
    · exact c1 a ha
    · exact hp.2.2 a ha b hb
theorem sym_one_r {x : Nat} {L : List Nat} (h : SymIn t L [x]) {i : Nat} (hi : i ≤ L.length) (h1 : i = 0 ∨ pre t (L.getD (i - 1) 0) x) (h2 : i = L.length ∨ pre t x (L.getD i 0)) : SymOut t L [x] (L.take i ++ x :: L.drop i) := by
  have c1 : ∀ y ∈ L.take i, pre t y x := fun y hy =>
    cross (L := L) (R := [x]) (s := i) (e := 0) h.sl h.sr hi (Nat.zero_le _) (h1.elim (fun h1 => .inl h1) (fun h1 => .inr (.inr h1))) y hy x (by simp)
  have c2 : ∀ y ∈ L.drop i, pre t x y := fun y hy =>
    cross (L := [x]) (R := L) (s := 1) (e := i) h.sr h.sl (Nat.le_refl _) hi (h2.elim (fun h2 => .inr (.inl h2)) (fun h2 => .inr (.inr h2))) x (by simp) y hy
  refine ⟨?_, ?_⟩
  · refine List.perm_middle.trans ?_
    rw [List.take_append_drop]
    exact (List.perm_append_singleton x L).symm
  · have hp := h.sl
    rw [← List.take_append_drop i L, List.pairwise_append] at hp
    refine List.pairwise_append.2 ⟨hp.1, List.pairwise_cons.2 ⟨c2, hp.2.1⟩, fun a ha b hb => ?_⟩
    rcases List.mem_cons.1 hb with rfl | hb
    · exact c1 a ha
    · exact hp.2.2 a ha b hb
theorem sym_split {L R : List Nat} {s e : Nat} (h : SymIn t L R) (hs : s ≤ L.length) (he : e ≤ R.length) (h1 : s = 0 ∨ e = R.length ∨ pre t (L.getD (s - 1) 0) (R.getD e 0)) (h2 : e = 0 ∨ s = L.length ∨ pre t (R.getD (e - 1) 0) (L.getD s 0)) :
    SymIn t (L.take s) (R.take e) ∧ SymIn t (L.drop s) (R.drop e) ∧ ∀ M1 M2, SymOut t (L.take s) (R.take e) M1 → SymOut t (L.drop s) (R.drop e) M2 → SymOut t L R (M1 ++ M2) := by
  have hl := h.sl
  have hr := h.sr
  rw [← List.take_append_drop s L, List.pairwise_append] at hl
  rw [← List.take_append_drop e R, List.pairwise_append] at hr
  have c1 := cross h.sl h.sr hs he h1
  have c2 := cross h.sr h.sl he hs h2
  refine ⟨⟨hl.1, hr.1, fun x hx y hy => h.lr x (List.mem_of_mem_take hx) y (List.mem_of_mem_take hy)⟩, ⟨hl.2.1, hr.2.1, fun x hx y hy => h.lr x (List.mem_of_mem_drop hx) y (List.mem_of_mem_drop hy)⟩, fun M1 M2 k1 k2 => ⟨?_, ?_⟩⟩
  · refine (k1.1.append k2.1).trans ?_
    conv => rhs; rw [← List.take_append_drop s L, ← List.take_append_drop e R]
    rw [List.append_assoc, List.append_assoc]
    refine List.Perm.append_left _ ?_
    rw [← List.append_assoc, ← List.append_assoc]
    exact List.Perm.append_right _ List.perm_append_comm
  · refine List.pairwise_append.2 ⟨k1.2, k2.2, fun a ha b hb => ?_⟩
    have ha' := k1.1.mem_iff.1 ha
    have hb' := k2.1.mem_iff.1 hb
    rcases List.mem_append.1 ha' with ha' | ha'
    · rcases List.mem_append.1 hb' with hb' | hb'
      · exact hl.2.2 a ha' b hb'
      · exact c1 a ha' b hb'
    · rcases List.mem_append.1 hb' with hb' | hb'
      · exact c2 a ha' b hb'
      · exact hr.2.2 a ha' b hb'
/-- Where one part is empty nothing is to be done. -/
theorem sym_none_l {R : List Nat} (h : SymIn t [] R) : SymOut t [] R R := ⟨List.Perm.refl _, h.sr⟩
theorem sym_none_r {L : List Nat} (h : SymIn t L []) : SymOut t L [] L := ⟨by rw [List.append_nil], h.sl⟩
end
end Go.Proofs.YtlpkmghhmpkddaaDoor
