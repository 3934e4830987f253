/- Sorting by blocks that are merged, as Go's slices package does it: plain. -/
import Derived.Test.YtlpkmghhmpkddaaDoorSymN
namespace Go.Proofs.YtlpkmghhmpkddaaDoor
open Go.RowKit
set_option linter.unusedVariables false

def seg {α : Type} (lo n : Nat) (F : List α) : List α := (F.drop lo).take n
theorem seg_get {α : Type} (lo n : Nat) (F : List α) (i : Nat) : (seg lo n F)[i]? = if i < n then F[lo + i]? else none := by
  unfold seg
  rw [List.getElem?_take, List.getElem?_drop]
theorem seg_len {α : Type} (lo n : Nat) (F : List α) : (seg lo n F).length = min n (F.length - lo) := by unfold seg; rw [List.length_take, List.length_drop]
theorem seg_split {α : Type} (lo n m : Nat) (F : List α) : seg lo (n + m) F = seg lo n F ++ seg (lo + n) m F := by
  unfold seg
  rw [List.take_add, List.drop_drop]
theorem seg_parts {α : Type} (a n : Nat) (F : List α) : F = F.take a ++ seg a n F ++ F.drop (a + n) := by
  unfold seg
  conv => lhs; rw [← List.take_append_drop a F, ← List.take_append_drop n (F.drop a), List.drop_drop]
  rw [List.append_assoc]
theorem seg_left {α : Type} {P X M S : List α} {lo n : Nat} (h : lo + n ≤ P.length) : seg lo n (P ++ M ++ S) = seg lo n (P ++ X ++ S) := by
  refine List.ext_getElem? fun i => ?_
  rw [seg_get, seg_get]
  split
  · rw [List.append_assoc, List.append_assoc, List.getElem?_append_left (by omega), List.getElem?_append_left (by omega)]
  · rfl
theorem seg_right {α : Type} {P X M S : List α} {lo n : Nat} (hM : M.length = X.length) (h : P.length + X.length ≤ lo) : seg lo n (P ++ M ++ S) = seg lo n (P ++ X ++ S) := by
  refine List.ext_getElem? fun i => ?_
  rw [seg_get, seg_get]
  split
  · rw [List.getElem?_append_right (by rw [List.length_append]; omega), List.getElem?_append_right (by rw [List.length_append]; omega), List.length_append, List.length_append, hM]
  · rfl
theorem seg_mid {α : Type} {P M S : List α} {n : Nat} (h : M.length ≤ n) (h2 : M.length = n ∨ S = []) : seg P.length n (P ++ M ++ S) = M := by
  unfold seg
  rw [List.append_assoc, List.drop_left]
  rcases h2 with h2 | h2
  · rw [← h2, List.take_left]
  · subst h2
    rw [List.append_nil, List.take_of_length_le h]
/-- A stretch holds its own numbers, sorted. -/
def okS (t : Nat → Bs) (N : Nat) (F : List Nat) (lo n : Nat) : Prop := (seg lo n F).Perm (seg lo n (List.range N)) ∧ (seg lo n F).Pairwise (pre t)
theorem seg_mem {N lo n x : Nat} (h : x ∈ seg lo n (List.range N)) : lo ≤ x ∧ x < lo + n ∧ x < N := by
  obtain ⟨i, hi⟩ := List.getElem?_of_mem h
  rw [seg_get] at hi
  split at hi
  · obtain ⟨h1, h2⟩ := List.getElem?_eq_some_iff.1 hi
    rw [List.length_range] at h1
    rw [List.getElem_range] at h2
    omega
  · cases hi
theorem seg_rise (N lo n : Nat) : (seg lo n (List.range N)).Pairwise (· < ·) := by
  unfold seg
  exact (List.pairwise_lt_range.sublist (List.drop_sublist _ _)).sublist (List.take_sublist _ _)
theorem okS_out {t : Nat → Bs} {N : Nat} {F : List Nat} {lo n : Nat} (hF : F.length = N) (h : N ≤ lo) : okS t N F lo n := by
  have e1 : seg lo n F = [] := List.eq_nil_of_length_eq_zero (by rw [seg_len]; omega)
  have e2 : seg lo n (List.range N) = [] := List.eq_nil_of_length_eq_zero (by rw [seg_len, List.length_range]; omega)
  unfold okS
  rw [e1, e2]
  exact ⟨List.Perm.refl _, List.Pairwise.nil⟩
theorem okS_cut {t : Nat → Bs} {N : Nat} {F : List Nat} {lo n m : Nat} (hF : F.length = N) (h : okS t N F lo n) (h1 : N ≤ lo + n) (h2 : n ≤ m) : okS t N F lo m := by
  have e : ∀ G : List Nat, G.length = N → seg lo m G = seg lo n G := fun G hG => by
    unfold seg
    rw [List.take_of_length_le (by rw [List.length_drop]; omega), List.take_of_length_le (by rw [List.length_drop]; omega)]
  unfold okS
  rw [e F hF, e _ (List.length_range ..)]
  exact h
/-- What a stretch that is put anew leaves of the others. -/
theorem okS_put {t : Nat → Bs} {N : Nat} {F M : List Nat} {a n : Nat} (hF : F.length = N) (hM : M.Perm (seg a n F)) (ha : a ≤ N) :
    (F.take a ++ M ++ F.drop (a + n)).length = N ∧ (∀ lo k, lo + k ≤ a → okS t N F lo k → okS t N (F.take a ++ M ++ F.drop (a + n)) lo k) ∧ (∀ lo k, a + n ≤ lo → okS t N F lo k → okS t N (F.take a ++ M ++ F.drop (a + n)) lo k) ∧
    seg a n (F.take a ++ M ++ F.drop (a + n)) = M ∧ (F.take a ++ M ++ F.drop (a + n)).Perm F := by
  have hl : (F.take a).length = a := by rw [List.length_take]; omega
  have hml : M.length = (seg a n F).length := hM.length_eq
  have hp := seg_parts a n F
  have hpm : (F.take a ++ M ++ F.drop (a + n)).Perm F := by
    conv => rhs; rw [hp]
    exact List.Perm.append_right _ (List.Perm.append_left _ hM)
  refine ⟨by rw [hpm.length_eq, hF], fun lo k h h2 => ?_, fun lo k h h2 => ?_, ?_, hpm⟩
  · have e : seg lo k (F.take a ++ M ++ F.drop (a + n)) = seg lo k F := by
      conv => rhs; rw [hp]
      exact seg_left (by rw [hl]; exact h)
    unfold okS
    rw [e]
    exact h2
  · rcases Nat.lt_or_ge (a + n) N with h3 | h3
    · have e : seg lo k (F.take a ++ M ++ F.drop (a + n)) = seg lo k F := by
        conv => rhs; rw [hp]
        exact seg_right hml (by rw [hl, seg_len, hF]; omega)
      unfold okS
      rw [e]
      exact h2
    · exact okS_out (by rw [hpm.length_eq, hF]) (by omega)
  · have := seg_mid (P := F.take a) (M := M) (S := F.drop (a + n)) (n := n) (by rw [hml, seg_len]; omega) (by
      rw [hml, seg_len, hF]
      rcases Nat.lt_or_ge (a + n) N with h3 | h3
      · exact .inl (by omega)
      · exact .inr (List.drop_of_length_le (by omega)))
    rw [hl] at this
    exact this
/-- The first blocks are sorted, the rest is as it was. -/
def Inv1 (t : Nat → Bs) (N : Nat) (F : List Nat) (a : Nat) : Prop := F.length = N ∧ (∀ j, 20 * j + 20 ≤ a → okS t N F (20 * j) 20) ∧ F.drop a = (List.range N).drop a
def AllB (t : Nat → Bs) (N : Nat) (F : List Nat) (B : Nat) : Prop := F.length = N ∧ ∀ j, okS t N F (B * j) B
/-- The first blocks are of twice the size. -/
def Inv2 (t : Nat → Bs) (N : Nat) (F : List Nat) (B a : Nat) : Prop := F.length = N ∧ (∀ j, 2 * B * j + 2 * B ≤ a → okS t N F (2 * B * j) (2 * B)) ∧ ∀ j, a ≤ B * j → okS t N F (B * j) B
theorem Inv1.start {t : Nat → Bs} {N : Nat} : Inv1 t N (List.range N) 0 := ⟨List.length_range .., fun j h => by omega, rfl⟩
theorem Inv1.rise {t : Nat → Bs} {N a n : Nat} {F : List Nat} (h : Inv1 t N F a) : seg a n F = seg a n (List.range N) ∧ (seg a n F).Pairwise (· < ·) := by
  have e : seg a n F = seg a n (List.range N) := by unfold seg; rw [h.2.2]
  exact ⟨e, by rw [e]; exact seg_rise N a n⟩
theorem Inv1.step {t : Nat → Bs} {N i : Nat} {F M : List Nat} (h : Inv1 t N F (20 * i)) (hN : 20 * i + 20 ≤ N) (hM : M.Perm (seg (20 * i) 20 F)) (hs : M.Pairwise (pre t)) : Inv1 t N (F.take (20 * i) ++ M ++ F.drop (20 * i + 20)) (20 * (i + 1)) := by
  obtain ⟨h1, h2, h3, h4, h5⟩ := okS_put (t := t) h.1 hM (by omega)
  refine ⟨h1, fun j hj => ?_, ?_⟩
  · rcases Nat.lt_or_ge j i with hj2 | hj2
    · exact h2 _ _ (by omega) (h.2.1 j (by omega))
    · obtain rfl : j = i := by omega
      unfold okS
      rw [h4]
      exact ⟨by rw [← h.rise.1]; exact hM, hs⟩
  · have hl : (F.take (20 * i) ++ M).length = 20 * i + 20 := by
      rw [List.length_append, hM.length_eq, seg_len, List.length_take, h.1]; omega
    rw [show 20 * (i + 1) = 20 * i + 20 by omega]
    rw [List.drop_left' hl]
    have := congrArg (List.drop 20) h.2.2
    rwa [List.drop_drop, List.drop_drop] at this
theorem Inv1.last {t : Nat → Bs} {N i : Nat} {F M : List Nat} (h : Inv1 t N F (20 * i)) (hi : 20 * i ≤ N) (hN : N < 20 * i + 20) (hM : M.Perm (seg (20 * i) (N - 20 * i) F)) (hs : M.Pairwise (pre t)) : AllB t N (F.take (20 * i) ++ M ++ F.drop (20 * i + (N - 20 * i))) 20 := by
  obtain ⟨h1, h2, h3, h4, h5⟩ := okS_put (t := t) h.1 hM hi
  refine ⟨h1, fun j => ?_⟩
  rcases Nat.lt_or_ge j i with hj2 | hj2
  · exact h2 _ _ (by omega) (h.2.1 j (by omega))
  · rcases Nat.lt_or_ge i j with hj3 | hj3
    · exact okS_out h1 (by omega)
    · obtain rfl : j = i := by omega
      refine okS_cut (n := N - 20 * j) h1 ?_ (by omega) (by omega)
      unfold okS
      rw [h4]
      exact ⟨by rw [← h.rise.1]; exact hM, hs⟩
theorem AllB.start {t : Nat → Bs} {N B : Nat} {F : List Nat} (h : AllB t N F B) : Inv2 t N F B 0 := ⟨h.1, fun j hj => by have h0 := h.2 0; rcases Nat.eq_zero_or_pos B with hb | hb; (subst hb; simpa using h.2 j); (exact absurd hj (by omega)), fun j _ => h.2 j⟩
theorem AllB.done {t : Nat → Bs} {N B : Nat} {F : List Nat} (h : AllB t N F B) (hB : N ≤ B) : F.Perm (List.range N) ∧ F.Pairwise (pre t) := by
  have h0 := h.2 0
  unfold okS seg at h0
  rw [Nat.mul_zero, List.drop_zero, List.drop_zero, List.take_of_length_le (by rw [h.1]; exact hB), List.take_of_length_le (by rw [List.length_range]; exact hB)] at h0
  exact h0
/-- Two blocks side by side may be merged. -/
theorem okS_in {t : Nat → Bs} {N a n m : Nat} {F : List Nat} (h1 : okS t N F a n) (h2 : okS t N F (a + n) m) : SymIn t (seg a n F) (seg (a + n) m F) :=
  ⟨h1.2, h2.2, fun x hx y hy => by
    have := seg_mem (h1.1.mem_iff.1 hx)
    have := seg_mem (h2.1.mem_iff.1 hy)
    omega⟩
theorem okS_join {t : Nat → Bs} {N a n m : Nat} {F M : List Nat} (hF : F.length = N) (ha : a ≤ N) (h1 : okS t N F a n) (h2 : okS t N F (a + n) m) (hM : SymOut t (seg a n F) (seg (a + n) m F) M) :
    M.Perm (seg a (n + m) F) ∧ okS t N (F.take a ++ M ++ F.drop (a + (n + m))) a (n + m) := by
  have e : M.Perm (seg a (n + m) F) := by rw [seg_split]; exact hM.1
  obtain ⟨_, _, _, h4, _⟩ := okS_put (t := t) hF e ha
  refine ⟨e, ?_⟩
  unfold okS
  rw [h4, seg_split a n m (List.range N)]
  exact ⟨hM.1.trans (List.Perm.append h1.1 h2.1), hM.2⟩
theorem Inv2.step {t : Nat → Bs} {N B i : Nat} {F M : List Nat} (hB : 0 < B) (h : Inv2 t N F B (2 * B * i)) (hN : 2 * B * i + 2 * B ≤ N) (hM : SymOut t (seg (2 * B * i) B F) (seg (2 * B * i + B) B F) M) : Inv2 t N (F.take (2 * B * i) ++ M ++ F.drop (2 * B * i + (B + B))) B (2 * B * (i + 1)) := by
  have e0 : B * (2 * i) = 2 * B * i := by rw [Nat.mul_comm 2 B, Nat.mul_assoc]
  have e1 : B * (2 * i + 1) = 2 * B * i + B := by rw [Nat.mul_add, e0, Nat.mul_one]
  have e2 : 2 * B * (i + 1) = 2 * B * i + 2 * B := by rw [Nat.mul_add, Nat.mul_one]
  have o1 := h.2.2 (2 * i) (by omega)
  have o2 := h.2.2 (2 * i + 1) (by omega)
  rw [e0] at o1
  rw [e1] at o2
  obtain ⟨hp, ho⟩ := okS_join h.1 (by omega) o1 o2 hM
  obtain ⟨h1, h2, h3, h4, h5⟩ := okS_put (t := t) h.1 hp (by omega)
  refine ⟨h1, fun j hj => ?_, fun j hj => h3 _ _ (by omega) (h.2.2 j (by omega))⟩
  rcases Nat.lt_or_ge j i with hj2 | hj2
  · have := Nat.mul_le_mul_left (2 * B) hj2
    rw [Nat.mul_succ] at this
    exact h2 _ _ (by omega) (h.2.1 j (by omega))
  · obtain rfl : j = i := by
      rcases Nat.lt_or_ge i j with h6 | h6
      · have := Nat.mul_le_mul_left (2 * B) h6
        rw [Nat.mul_succ] at this
        omega
      · omega
    rw [show 2 * B = B + B by omega] at ho ⊢
    exact ho
theorem Inv2.last {t : Nat → Bs} {N B i : Nat} {F M : List Nat} (hB : 0 < B) (h : Inv2 t N F B (2 * B * i)) (hi : 2 * B * i + B < N) (hN : N < 2 * B * i + 2 * B) (hM : SymOut t (seg (2 * B * i) B F) (seg (2 * B * i + B) (N - (2 * B * i + B)) F) M) : AllB t N (F.take (2 * B * i) ++ M ++ F.drop (2 * B * i + (B + (N - (2 * B * i + B))))) (2 * B) := by
  have e0 : B * (2 * i) = 2 * B * i := by rw [Nat.mul_comm 2 B, Nat.mul_assoc]
  have e1 : B * (2 * i + 1) = 2 * B * i + B := by rw [Nat.mul_add, e0, Nat.mul_one]
  have o1 := h.2.2 (2 * i) (by omega)
  have o2 := h.2.2 (2 * i + 1) (by omega)
  rw [e0] at o1
  rw [e1] at o2
  have e3 : ∀ G : List Nat, G.length = N → seg (2 * B * i + B) (N - (2 * B * i + B)) G = seg (2 * B * i + B) B G := fun G hG => by
    unfold seg
    rw [List.take_of_length_le (by rw [List.length_drop]; omega), List.take_of_length_le (by rw [List.length_drop]; omega)]
  have o3 : okS t N F (2 * B * i + B) (N - (2 * B * i + B)) := by
    unfold okS
    rw [e3 F h.1, e3 _ (List.length_range ..)]
    exact o2
  obtain ⟨hp, ho⟩ := okS_join h.1 (by omega) o1 o3 hM
  obtain ⟨h1, h2, h3, h4, h5⟩ := okS_put (t := t) h.1 hp (by omega)
  refine ⟨h1, fun j => ?_⟩
  rcases Nat.lt_or_ge j i with hj2 | hj2
  · have := Nat.mul_le_mul_left (2 * B) hj2
    rw [Nat.mul_succ] at this
    exact h2 _ _ (by omega) (h.2.1 j (by omega))
  · rcases Nat.lt_or_ge i j with h6 | h6
    · have := Nat.mul_le_mul_left (2 * B) h6
      rw [Nat.mul_succ] at this
      exact okS_out h1 (by omega)
    · obtain rfl : j = i := by omega
      exact okS_cut h1 ho (by omega) (by omega)
theorem Inv2.skip {t : Nat → Bs} {N B i : Nat} {F : List Nat} (hB : 0 < B) (h : Inv2 t N F B (2 * B * i)) (hi : N ≤ 2 * B * i + B) : AllB t N F (2 * B) := by
  have e0 : B * (2 * i) = 2 * B * i := by rw [Nat.mul_comm 2 B, Nat.mul_assoc]
  have o1 := h.2.2 (2 * i) (by omega)
  rw [e0] at o1
  refine ⟨h.1, fun j => ?_⟩
  rcases Nat.lt_or_ge j i with hj2 | hj2
  · have := Nat.mul_le_mul_left (2 * B) hj2
    rw [Nat.mul_succ] at this
    exact h.2.1 j (by omega)
  · rcases Nat.lt_or_ge i j with h6 | h6
    · have := Nat.mul_le_mul_left (2 * B) h6
      rw [Nat.mul_succ] at this
      exact okS_out h.1 (by omega)
    · obtain rfl : j = i := by omega
      exact okS_cut h.1 o1 (by omega) (by omega)
end Go.Proofs.YtlpkmghhmpkddaaDoor
