/- symMerge's three steps behind its search: the rotation, the left half, the right half. -/
import Derived.Test.YtlpkmghhmpkddaaDoorSymC
namespace Go.Proofs.YtlpkmghhmpkddaaDoor
open Go.RowKit
set_option linter.unusedVariables false

section
variable {w W : World} {g N c pt tb a m b s e : Nat} {T : List Bs} {P L R S : List Nat}
theorem st1_call (h : SymW w W g pt tb T (P ++ L ++ R ++ S)) (hN : (P ++ L ++ R ++ S).length = N) (hN2 : N ≤ 100000) (ha : P.length = a) (hm : a + L.length = m) (hs : s < L.length) (he : 0 < e) (he2 : e ≤ R.length) :
    Calls Tryd.prog 59 #[.slice (some ⟨g, 0, none⟩) N c, .int .i64 ((a + s : Nat) : Int), .int .i64 (m : Int), .int .i64 ((m + e : Nat) : Int), cmpV pt] W fun e' w' => e' = .returned (.tuple #[]) ∧ St1 w w' g pt tb T P L R S s e := by
  have hq := parts_eq P L R S s e
  have hb := h.s.bk
  rw [hq] at hb hN
  refine (rot_any g N c pt (a + s) m (m + e) (P ++ L.take s) (L.drop s) (R.take e) (R.drop e ++ S) W hb hN hN2 (by rw [List.length_append, List.length_take]; omega) (by rw [List.length_drop]; omega) (by rw [List.length_take]; omega) (by rw [List.length_drop]; omega) (by rw [List.length_take]; omega)).mono ?_
  rintro e' w' ⟨rfl, k⟩
  refine ⟨rfl, ?_⟩
  have k2 := h.next k (parts_perm P L R S s e)
  unfold St1
  simpa only [List.append_assoc] using k2
theorem st1_skip (h : SymW w W g pt tb T (P ++ L ++ R ++ S)) (hs : L.length ≤ s ∨ e = 0) : St1 w W g pt tb T P L R S s e := by
  unfold St1
  have hq := parts_eq P L R S s e
  rw [hq] at h
  rcases hs with hs | hs
  · rw [List.drop_of_length_le hs] at h ⊢
    simpa only [List.append_assoc, List.nil_append] using h
  · subst hs
    rw [List.take_zero] at h ⊢
    simpa only [List.append_assoc, List.nil_append] using h
theorem st2_call {d : Nat} (IH : ∀ (a' m' b' : Nat) (P' L' R' S' : List Nat) (w' : World), b' - a' < d → SymH g N pt tb T a' m' b' P' L' R' S' w' → SymC g N c pt tb T a' m' b' P' L' R' S' w')
    (h : St1 w W g pt tb T P L R S s e) (hin : SymIn (tOf T) (L.take s) (R.take e)) (hN : (P ++ L ++ R ++ S).length = N) (ha : P.length = a) (hs : 0 < s) (hs2 : s ≤ L.length) (he : 0 < e) (he2 : e ≤ R.length) (hd : s + e < d) :
    Calls Tryd.prog 52 #[.slice (some ⟨g, 0, none⟩) N c, .int .i64 (a : Int), .int .i64 ((a + s : Nat) : Int), .int .i64 ((a + s + e : Nat) : Int), cmpV pt] W fun e' w' => e' = .returned (.tuple #[]) ∧ St2 w w' g pt tb T P L R S s e := by
  have hl : (P ++ L.take s ++ R.take e ++ (L.drop s ++ R.drop e ++ S)).length = N := by
    rw [← hN]; simp only [List.length_append, List.length_take, List.length_drop]; omega
  refine (IH a (a + s) (a + s + e) P (L.take s) (R.take e) (L.drop s ++ R.drop e ++ S) W (by omega) ⟨SymW.self h, hl, ha, by rw [List.length_take]; omega, by rw [List.length_take]; omega, by rw [List.length_take]; omega, by rw [List.length_take]; omega, hin⟩).mono ?_
  rintro e' w' ⟨rfl, M, hM, k⟩
  refine ⟨rfl, M, hM, ?_⟩
  have hp : (P ++ M ++ (L.drop s ++ R.drop e ++ S)).Perm (P ++ L.take s ++ R.take e ++ (L.drop s ++ R.drop e ++ S)) := by
    refine List.Perm.append_right _ ?_
    rw [List.append_assoc P]
    exact List.Perm.append_left _ hM.1
  have k2 := SymW.next h k hp
  simpa only [List.append_assoc] using k2
theorem st2_skip (h : St1 w W g pt tb T P L R S s e) (hin : SymIn (tOf T) (L.take s) (R.take e)) (hs : s = 0 ∨ e = 0) : St2 w W g pt tb T P L R S s e := by
  refine ⟨L.take s ++ R.take e, ?_, ?_⟩
  · rcases hs with hs | hs
    · subst hs; rw [List.take_zero] at hin ⊢; exact sym_none_l hin
    · subst hs; rw [List.take_zero] at hin ⊢; rw [List.append_nil]; exact sym_none_r hin
  · have h2 : SymW w W g pt tb T (P ++ L.take s ++ R.take e ++ (L.drop s ++ R.drop e ++ S)) := h
    simpa only [List.append_assoc] using h2
theorem st3_call {d : Nat} (IH : ∀ (a' m' b' : Nat) (P' L' R' S' : List Nat) (w' : World), b' - a' < d → SymH g N pt tb T a' m' b' P' L' R' S' w' → SymC g N c pt tb T a' m' b' P' L' R' S' w')
    (h : St2 w W g pt tb T P L R S s e) (hin : SymIn (tOf T) (L.drop s) (R.drop e)) (hN : (P ++ L ++ R ++ S).length = N) (ha : P.length = a) (hm : a + L.length = m) (hb : m + R.length = b) (hs2 : s < L.length) (he2 : e < R.length) (hd : b - (a + s + e) < d) :
    Calls Tryd.prog 52 #[.slice (some ⟨g, 0, none⟩) N c, .int .i64 ((a + s + e : Nat) : Int), .int .i64 ((m + e : Nat) : Int), .int .i64 (b : Int), cmpV pt] W fun e' w' => e' = .returned (.tuple #[]) ∧ St3 w w' g T P L R S s e := by
  obtain ⟨M1, hM1, h1⟩ := h
  have hl1 : M1.length = s + e := by rw [hM1.1.length_eq, List.length_append, List.length_take, List.length_take]; omega
  have hl : (P ++ M1 ++ L.drop s ++ R.drop e ++ S).length = N := by
    rw [← hN]; simp only [List.length_append, List.length_drop]; omega
  refine (IH (a + s + e) (m + e) b (P ++ M1) (L.drop s) (R.drop e) S W hd ⟨h1.self, hl, by rw [List.length_append]; omega, by rw [List.length_drop]; omega, by rw [List.length_drop]; omega, by rw [List.length_drop]; omega, by rw [List.length_drop]; omega, hin⟩).mono ?_
  rintro e' w' ⟨rfl, M, hM, k⟩
  refine ⟨rfl, M1, M, hM1, hM, ?_⟩
  have k2 := h1.s.trans k
  unfold SrtTo
  simpa only [List.append_assoc] using k2
theorem st3_skip (h : St2 w W g pt tb T P L R S s e) (hin : SymIn (tOf T) (L.drop s) (R.drop e)) (hs : L.length ≤ s ∨ R.length ≤ e) : St3 w W g T P L R S s e := by
  obtain ⟨M1, hM1, h1⟩ := h
  refine ⟨M1, L.drop s ++ R.drop e, hM1, ?_, ?_⟩
  · rcases hs with hs | hs
    · rw [List.drop_of_length_le hs] at hin ⊢; exact sym_none_l hin
    · rw [List.drop_of_length_le hs] at hin ⊢; rw [List.append_nil]; exact sym_none_r hin
  · have h2 := h1.s
    unfold SrtTo
    simpa only [List.append_assoc] using h2
end
end Go.Proofs.YtlpkmghhmpkddaaDoor
