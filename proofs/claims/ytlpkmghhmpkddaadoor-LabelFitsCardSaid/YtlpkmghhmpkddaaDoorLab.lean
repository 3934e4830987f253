/- Labels: plain facts: words, pieces of a text, labels of a text and back. -/
import Derived.Test.YtlpkmghhmpkddaaDoorTxt
import Derived.Lib.Join
import Derived.Lib.Bytealg
namespace Go.Proofs.YtlpkmghhmpkddaaDoor
open Go.RowKit
set_option linter.unusedVariables false

abbrev Bs := List UInt8
/-- A byte of a label's word. -/
def okB (b : UInt8) : Bool := (97 ≤ b && b ≤ 122) || (48 ≤ b && b ≤ 57) || b == 45
def wordB (s : Bs) : Bool := decide (1 ≤ s.length ∧ s.length ≤ 12) && s.all okB
def nameB (s : Bs) : Bool := wordB s && decide (97 ≤ s.getD 0 0)
abbrev Lb := Bs × Bs
def lbAt (l : List Lb) (i : Nat) : Lb := l.getD i ([], [])
/-- String order, as the model has it: at most. -/
def leS (a b : Bs) : Bool := Op.bytesLess a b || a == b
def lbOk (l : List Lb) (i : Nat) : Prop := nameB (lbAt l i).1 = true ∧ wordB (lbAt l i).2 = true ∧ (0 < i → leS (lbAt l i).1 (lbAt l (i - 1)).1 = false)
instance (l : List Lb) (i : Nat) : Decidable (lbOk l i) := by unfold lbOk; infer_instance
def lbCode (l : List Lb) (i : Nat) : Nat := if nameB (lbAt l i).1 = true ∧ wordB (lbAt l i).2 = true then 2 else 3
theorem first_lb (l : List Lb) : ∀ n, ∃ i, i ≤ n ∧ (∀ j, j < i → lbOk l j) ∧ (i < n → ¬ lbOk l i)
  | 0 => ⟨0, Nat.le_refl _, fun j h => absurd h (Nat.not_lt_zero _), fun h => absurd h (Nat.not_lt_zero _)⟩
  | n + 1 => by
    obtain ⟨i, h1, h2, h3⟩ := first_lb l n
    by_cases hi : i < n
    · exact ⟨i, by omega, h2, fun _ => h3 hi⟩
    · obtain rfl : i = n := by omega
      by_cases ho : lbOk l i
      · exact ⟨i + 1, Nat.le_refl _, fun j hj => by
          rcases Nat.lt_or_ge j i with h | h
          · exact h2 j h
          · obtain rfl : j = i := by omega
            exact ho, fun h => absurd h (Nat.lt_irrefl _)⟩
      · exact ⟨i, by omega, h2, fun _ => ho⟩

/-- The pieces of a text between the bytes c. -/
def splitC (c : UInt8) : Bs → List Bs
  | [] => [[]]
  | x :: xs => if x = c then [] :: splitC c xs else match splitC c xs with
    | [] => [[x]]
    | p :: ps => (x :: p) :: ps
theorem splitC_cons (c x : UInt8) (xs : Bs) : splitC c (x :: xs) = if x = c then [] :: splitC c xs else match splitC c xs with
    | [] => [[x]]
    | p :: ps => (x :: p) :: ps := rfl
theorem splitC_ne (c : UInt8) : ∀ l : Bs, splitC c l ≠ []
  | [] => by simp [splitC]
  | x :: xs => by
    rw [splitC_cons]
    split
    · simp
    · split <;> simp
theorem splitC_clean (c : UInt8) : ∀ l : Bs, c ∉ l → splitC c l = [l]
  | [], _ => rfl
  | x :: xs, h => by
    rw [List.mem_cons, not_or] at h
    rw [splitC_cons, if_neg (fun e => h.1 e.symm), splitC_clean c xs h.2]
theorem splitC_append (c : UInt8) : ∀ l r : Bs, splitC c (l ++ c :: r) = splitC c l ++ splitC c r
  | [], r => by simp [splitC]
  | x :: xs, r => by
    rw [List.cons_append, splitC_cons, splitC_cons, splitC_append c xs r]
    split
    · rfl
    · cases hs : splitC c xs with
      | nil => exact absurd hs (splitC_ne c xs)
      | cons p ps => rfl
/-- One byte more, which is no c: it goes to the last piece. -/
theorem splitC_snoc (c a : UInt8) (h : a ≠ c) : ∀ (l : Bs) (d : List Bs) (p : Bs), splitC c l = d ++ [p] → splitC c (l ++ [a]) = d ++ [p ++ [a]]
  | [], d, p, e => by
    have e' : ([[]] : List Bs) = d ++ [p] := e
    have : d = [] := by
      cases d with
      | nil => rfl
      | cons x d => have := congrArg List.length e'; simp at this
    subst this
    injection e' with e1 e2
    subst e1
    show splitC c [a] = _
    rw [splitC_cons, if_neg h]; rfl
  | x :: xs, d, p, e => by
    rw [List.cons_append]
    rw [splitC_cons] at e ⊢
    by_cases hx : x = c
    · rw [if_pos hx] at e ⊢
      cases d with
      | nil => injection e with e1 e2; exact absurd e2 (splitC_ne c xs)
      | cons q d =>
        injection e with e1 e2
        subst e1
        rw [splitC_snoc c a h xs d p e2]; rfl
    · rw [if_neg hx] at e ⊢
      cases hs : splitC c xs with
      | nil => exact absurd hs (splitC_ne c xs)
      | cons q ps =>
        rw [hs] at e
        cases d with
        | nil =>
          injection e with e1 e2
          subst e2
          rw [splitC_snoc c a h xs [] q (by rw [hs]; rfl)]
          subst e1; rfl
        | cons q' d =>
          injection e with e1 e2
          subst e1
          rw [splitC_snoc c a h xs (q :: d) p (by rw [hs, e2]; rfl)]
          rfl
theorem splitC_last (c : UInt8) (l : Bs) : ∃ d p, splitC c l = d ++ [p] :=
  ⟨(splitC c l).dropLast, (splitC c l).getLast (splitC_ne c l), (List.dropLast_concat_getLast _).symm⟩
theorem splitC_c (c : UInt8) (l : Bs) : splitC c (l ++ [c]) = splitC c l ++ [[]] := splitC_append c l []

/-- A piece at its first '='. -/
def cutE : Bs → Option Lb
  | [] => none
  | x :: xs => if x = 61 then some ([], xs) else (cutE xs).map fun q => (x :: q.1, q.2)
theorem cutE_snoc (a : UInt8) : ∀ p : Bs, cutE (p ++ [a]) = match cutE p with
    | some q => some (q.1, q.2 ++ [a])
    | none => if a = 61 then some (p, []) else none
  | [] => by
    show cutE [a] = _
    unfold cutE
    by_cases h : a = 61
    · simp [h]
    · simp [h, cutE]
  | x :: xs => by
    rw [List.cons_append]
    unfold cutE
    by_cases hx : x = 61
    · simp [hx]
    · rw [if_neg hx, if_neg hx, cutE_snoc a xs]
      cases hq : cutE xs with
      | some q => simp
      | none => by_cases h : a = 61 <;> simp [h]
theorem cutE_some : ∀ {p : Bs} {q : Lb}, cutE p = some q → p = q.1 ++ 61 :: q.2
  | [], _, h => by cases h
  | x :: xs, q, h => by
    unfold cutE at h
    split at h
    · rename_i hx
      injection h with h
      subst h; subst hx; rfl
    · cases hc : cutE xs with
      | none => rw [hc] at h; cases h
      | some r =>
        rw [hc] at h
        injection h with h
        subst h
        rw [List.cons_append, ← cutE_some hc]
theorem cutE_mk : ∀ (a b : Bs), (61 : UInt8) ∉ a → cutE (a ++ 61 :: b) = some (a, b)
  | [], b, _ => by simp [cutE]
  | x :: xs, b, h => by
    rw [List.mem_cons, not_or] at h
    rw [List.cons_append]
    unfold cutE
    rw [if_neg (fun e => h.1 e.symm), cutE_mk xs b h.2]; rfl
theorem indexE_none : ∀ {p : Bs}, cutE p = none → Lib.indexByte p 61 = -1
  | [], _ => rfl
  | x :: xs, h => by
    unfold cutE at h
    split at h
    · cases h
    · rename_i hx
      have h2 : cutE xs = none := by
        cases hc : cutE xs with
        | none => rfl
        | some r => rw [hc] at h; cases h
      unfold Lib.indexByte
      rw [indexE_none h2]
      have : (x == 61) = false := by rw [beq_eq_false_iff_ne]; exact hx
      rw [this]; rfl
theorem indexE_some : ∀ {p : Bs} {q : Lb}, cutE p = some q → Lib.indexByte p 61 = q.1.length
  | [], _, h => by cases h
  | x :: xs, q, h => by
    unfold cutE at h
    split at h
    · rename_i hx
      injection h with h
      subst h; subst hx; rfl
    · rename_i hx
      cases hc : cutE xs with
      | none => rw [hc] at h; cases h
      | some r =>
        rw [hc] at h
        injection h with h
        subst h
        unfold Lib.indexByte
        rw [indexE_some hc]
        have h1 : (x == 61) = false := by rw [beq_eq_false_iff_ne]; exact hx
        have h2 : (((r.1.length : Nat) : Int) == -1) = false := by rw [beq_eq_false_iff_ne]; omega
        rw [h1, h2]; simp
/-- The rest of a text at its first c. -/
theorem index_split (c : UInt8) : ∀ (r : Bs), (Lib.indexByte r c = -1 ∧ splitC c r = [r]) ∨ (∃ i : Nat, Lib.indexByte r c = i ∧ i < r.length ∧ splitC c r = r.take i :: splitC c (r.drop (i + 1)))
  | [] => .inl ⟨rfl, rfl⟩
  | x :: xs => by
    by_cases hx : x = c
    · refine .inr ⟨0, ?_, by simp, ?_⟩
      · unfold Lib.indexByte; simp [hx]
      · show splitC c (x :: xs) = _
        rw [splitC_cons, if_pos hx]; rfl
    · have h1 : (x == c) = false := by rw [beq_eq_false_iff_ne]; exact hx
      rcases index_split c xs with ⟨h2, h3⟩ | ⟨i, h2, h3, h4⟩
      · refine .inl ⟨?_, ?_⟩
        · unfold Lib.indexByte; rw [h1, h2]; rfl
        · rw [splitC_cons, if_neg hx, h3]
      · refine .inr ⟨i + 1, ?_, by simp; omega, ?_⟩
        · unfold Lib.indexByte
          have h5 : (((i : Nat) : Int) == -1) = false := by rw [beq_eq_false_iff_ne]; omega
          rw [h1, h2, h5]; simp
        · rw [splitC_cons, if_neg hx, h4]; rfl
/-- Labels of a text. -/
def parseL (s : Bs) : Option (List Lb) := (splitC 44 s).mapM cutE
/-- A label as a text; labels as a text. -/
def lbT (p : Lb) : Bs := p.1 ++ 61 :: p.2
def textL (l : List Lb) : Bs := Lib.join (l.map lbT) [44]
theorem join_split (c : UInt8) : ∀ s : Bs, Lib.join (splitC c s) [c] = s
  | [] => Lib.join_one _ _
  | x :: xs => by
    have ih := join_split c xs
    rw [splitC_cons]
    split
    · rename_i hx
      cases hs : splitC c xs with
      | nil => exact absurd hs (splitC_ne c xs)
      | cons p ps =>
        rw [hs] at ih
        rw [Lib.join_cons] at ih ⊢
        rw [hx]
        simp only [Lib.joinTail, List.map_cons, List.flatten_cons, List.nil_append] at ih ⊢
        rw [List.append_assoc, ih]; rfl
    · cases hs : splitC c xs with
      | nil => exact absurd hs (splitC_ne c xs)
      | cons p ps =>
        rw [hs] at ih
        rw [Lib.join_cons] at ih ⊢
        rw [List.cons_append, ih]
theorem split_join (c : UInt8) : ∀ (p : Bs) (ps : List Bs), (∀ q ∈ p :: ps, c ∉ q) → splitC c (Lib.join (p :: ps) [c]) = p :: ps
  | p, [], h => by rw [Lib.join_one]; exact splitC_clean c p (h p List.mem_cons_self)
  | p, q :: ps, h => by
    have ih := split_join c q ps (fun r hr => h r (List.mem_cons_of_mem _ hr))
    have e : Lib.join (p :: q :: ps) [c] = p ++ c :: Lib.join (q :: ps) [c] := by
      rw [Lib.join_cons, Lib.join_cons]
      simp [Lib.joinTail]
    rw [e, splitC_append, ih, splitC_clean c p (h p List.mem_cons_self)]; rfl
theorem mapM_cut {ps : List Bs} {l : List Lb} (h : ps.mapM cutE = some l) : ps = l.map lbT := by
  induction ps generalizing l with
  | nil => simp at h; subst h; rfl
  | cons p ps ih =>
    rw [List.mapM_cons] at h
    cases hp : cutE p with
    | none => rw [hp] at h; cases h
    | some q =>
      rw [hp] at h
      cases hr : ps.mapM cutE with
      | none => rw [hr] at h; cases h
      | some r =>
        rw [hr] at h
        have h' : some (q :: r) = some l := h
        injection h' with h'
        subst h'
        rw [List.map_cons, ← ih hr]
        show p :: ps = (q.1 ++ 61 :: q.2) :: ps
        rw [← cutE_some hp]
theorem text_parse {s : Bs} {l : List Lb} (h : parseL s = some l) : textL l = s := by
  unfold textL; rw [← mapM_cut h, join_split]
theorem mapM_lbT : ∀ {l : List Lb}, (∀ p ∈ l, (61 : UInt8) ∉ p.1) → (l.map lbT).mapM cutE = some l
  | [], _ => rfl
  | p :: l, h => by
    rw [List.map_cons, List.mapM_cons, mapM_lbT (fun q hq => h q (List.mem_cons_of_mem _ hq))]
    have : cutE (lbT p) = some p := cutE_mk p.1 p.2 (h p List.mem_cons_self)
    rw [this]; rfl
theorem parse_text {l : List Lb} (h0 : l ≠ []) (h1 : ∀ p ∈ l, (61 : UInt8) ∉ p.1 ∧ (44 : UInt8) ∉ p.1 ∧ (44 : UInt8) ∉ p.2) : parseL (textL l) = some l := by
  cases l with
  | nil => exact absurd rfl h0
  | cons p l =>
    unfold parseL textL
    rw [List.map_cons, split_join 44 (lbT p) (l.map lbT), ← List.map_cons, mapM_lbT (fun q hq => (h1 q hq).1)]
    intro q hq
    rw [← List.map_cons] at hq
    obtain ⟨r, hr, rfl⟩ := List.mem_map.1 hq
    obtain ⟨_, h2, h3⟩ := h1 r hr
    unfold lbT
    rw [List.mem_append, List.mem_cons]
    rintro (h | h | h)
    · exact h2 h
    · exact absurd h (by decide)
    · exact h3 h
theorem okB_clean {b : UInt8} (h : okB b = true) : b ≠ 61 ∧ b ≠ 44 := by
  refine ⟨fun e => ?_, fun e => ?_⟩ <;> (subst e; exact absurd h (by decide))
theorem wordB_clean {s : Bs} (h : wordB s = true) : (61 : UInt8) ∉ s ∧ (44 : UInt8) ∉ s := by
  unfold wordB at h
  rw [Bool.and_eq_true] at h
  have h2 := List.all_eq_true.1 h.2
  exact ⟨fun hm => (okB_clean (h2 _ hm)).1 rfl, fun hm => (okB_clean (h2 _ hm)).2 rfl⟩
theorem nameB_word {s : Bs} (h : nameB s = true) : wordB s = true := by
  unfold nameB at h; rw [Bool.and_eq_true] at h; exact h.1
theorem parse_ok {l : List Lb} (h0 : l ≠ []) (h : ∀ j, j < l.length → lbOk l j) : parseL (textL l) = some l := by
  refine parse_text h0 fun p hp => ?_
  obtain ⟨j, hj, rfl⟩ := List.getElem_of_mem hp
  obtain ⟨h1, h2, _⟩ := h j hj
  have e : lbAt l j = l[j] := by unfold lbAt; rw [List.getD_eq_getElem?_getD, List.getElem?_eq_getElem hj]; rfl
  rw [e] at h1 h2
  obtain ⟨c1, c2⟩ := wordB_clean (nameB_word h1)
  exact ⟨c1, c2, (wordB_clean h2).2⟩
theorem mapM_app : ∀ (a b : List Bs), (a ++ b).mapM cutE = (a.mapM cutE).bind fun x => (b.mapM cutE).map fun y => x ++ y
  | [], b => by simp
  | p :: a, b => by
    rw [List.cons_append, List.mapM_cons, List.mapM_cons, mapM_app a b]
    cases cutE p with
    | none => rfl
    | some q =>
      cases a.mapM cutE with
      | none => rfl
      | some x => cases b.mapM cutE <;> rfl
theorem mapM_one (p : Bs) : [p].mapM cutE = (cutE p).map fun q => [q] := by
  rw [List.mapM_cons]
  cases cutE p <;> rfl
/-- What the reference's LabelsOf holds behind the bytes t: labels, one in the making, and has it a value yet? -/
def RefSt (t : Bs) (out : List Lb) (x : Lb) (v : Bool) : Prop :=
  ∃ d p, splitC 44 t = d ++ [p] ∧ d.mapM cutE = some out ∧ ((cutE p = some x ∧ v = true) ∨ (cutE p = none ∧ x = (p, []) ∧ v = false))
theorem RefSt.start : RefSt [] [] ([], []) false := ⟨[], [], rfl, rfl, .inr ⟨rfl, rfl, rfl⟩⟩
theorem RefSt.comma {t : Bs} {out : List Lb} {x : Lb} (h : RefSt t out x true) : RefSt (t ++ [44]) (out ++ [x]) ([], []) false := by
  obtain ⟨d, p, h1, h2, h3⟩ := h
  rcases h3 with ⟨h3, _⟩ | ⟨_, _, h3⟩
  · refine ⟨d ++ [p], [], by rw [splitC_c, h1], ?_, .inr ⟨rfl, rfl, rfl⟩⟩
    rw [mapM_app, h2, mapM_one, h3]; rfl
  · cases h3
theorem RefSt.fail {t : Bs} {out : List Lb} {x : Lb} (h : RefSt t out x false) (r : Bs) : parseL (t ++ 44 :: r) = none ∧ parseL t = none := by
  obtain ⟨d, p, h1, h2, h3⟩ := h
  rcases h3 with ⟨_, h3⟩ | ⟨h3, _, _⟩
  · cases h3
  · have e : (d ++ [p]).mapM cutE = none := by rw [mapM_app, h2, mapM_one, h3]; rfl
    refine ⟨?_, ?_⟩
    · unfold parseL; rw [splitC_append, h1, mapM_app, e]; rfl
    · unfold parseL; rw [h1, e]
theorem RefSt.done {t : Bs} {out : List Lb} {x : Lb} (h : RefSt t out x true) : parseL t = some (out ++ [x]) := by
  obtain ⟨d, p, h1, h2, h3⟩ := h
  rcases h3 with ⟨h3, _⟩ | ⟨_, _, h3⟩
  · unfold parseL; rw [h1, mapM_app, h2, mapM_one, h3]; rfl
  · cases h3
theorem RefSt.value {t : Bs} {out : List Lb} {x : Lb} (h : RefSt t out x true) {a : UInt8} (ha : a ≠ 44) : RefSt (t ++ [a]) out (x.1, x.2 ++ [a]) true := by
  obtain ⟨d, p, h1, h2, h3⟩ := h
  rcases h3 with ⟨h3, _⟩ | ⟨_, _, h3⟩
  · exact ⟨d, p ++ [a], splitC_snoc 44 a ha t d p h1, h2, .inl ⟨by rw [cutE_snoc, h3], rfl⟩⟩
  · cases h3
theorem RefSt.eq {t : Bs} {out : List Lb} {x : Lb} (h : RefSt t out x false) : RefSt (t ++ [61]) out x true := by
  obtain ⟨d, p, h1, h2, h3⟩ := h
  rcases h3 with ⟨_, h3⟩ | ⟨h3, hx, _⟩
  · cases h3
  · exact ⟨d, p ++ [61], splitC_snoc 44 61 (by decide) t d p h1, h2, .inl ⟨by rw [cutE_snoc, h3, hx]; rfl, rfl⟩⟩
theorem RefSt.name {t : Bs} {out : List Lb} {x : Lb} (h : RefSt t out x false) {a : UInt8} (ha : a ≠ 44) (ha2 : a ≠ 61) : RefSt (t ++ [a]) out (x.1 ++ [a], []) false := by
  obtain ⟨d, p, h1, h2, h3⟩ := h
  rcases h3 with ⟨_, h3⟩ | ⟨h3, hx, _⟩
  · cases h3
  · exact ⟨d, p ++ [a], splitC_snoc 44 a ha t d p h1, h2, .inr ⟨by rw [cutE_snoc, h3]; simp [ha2], by rw [hx], rfl⟩⟩
theorem RefSt.name_nil {t : Bs} {out : List Lb} {x : Lb} (h : RefSt t out x false) : x.2 = [] := by
  obtain ⟨d, p, h1, h2, h3⟩ := h
  rcases h3 with ⟨_, h3⟩ | ⟨h3, hx, _⟩
  · cases h3
  · rw [hx]
theorem cutE_len {p : Bs} {q : Lb} (h : cutE p = some q) : q.1.length ≤ p.length ∧ q.2.length ≤ p.length := by
  have := cutE_some h
  rw [this, List.length_append, List.length_cons]; omega
/-- Sizes: what is held is no longer than what was read. -/
theorem split_len (s : Bs) : (splitC 44 s).length ≤ s.length + 1 ∧ ∀ q ∈ splitC 44 s, q.length ≤ s.length := by
    induction s with
    | nil => exact ⟨Nat.le_refl _, fun q hq => by simp [splitC] at hq; subst hq; simp⟩
    | cons x xs ih =>
      obtain ⟨i1, i2⟩ := ih
      rw [splitC_cons]
      split
      · refine ⟨by simp; omega, fun q hq => ?_⟩
        rcases List.mem_cons.1 hq with rfl | hq
        · simp
        · have := i2 q hq; simp; omega
      · cases hs : splitC 44 xs with
        | nil => exact absurd hs (splitC_ne 44 xs)
        | cons p ps =>
          rw [hs] at i1 i2
          refine ⟨by simp at i1 ⊢; omega, fun q hq => ?_⟩
          rcases List.mem_cons.1 hq with rfl | hq
          · have := i2 p List.mem_cons_self; simp; omega
          · have := i2 q (List.mem_cons_of_mem _ hq); simp; omega
theorem RefSt.len {t : Bs} {out : List Lb} {x : Lb} {v : Bool} (h : RefSt t out x v) : x.1.length ≤ t.length ∧ x.2.length ≤ t.length ∧ out.length ≤ t.length + 1 ∧ ∀ p ∈ out, p.1.length ≤ t.length ∧ p.2.length ≤ t.length := by
  obtain ⟨d, p, h1, h2, h3⟩ := h
  obtain ⟨k1, k2⟩ := split_len t
  rw [h1] at k1 k2
  have hp := k2 p (by simp)
  have e := mapM_cut h2
  have hl : d.length = out.length := by rw [e, List.length_map]
  rw [List.length_append] at k1
  refine ⟨?_, ?_, by omega, fun q hq => ?_⟩
  · rcases h3 with ⟨h3, _⟩ | ⟨_, h3, _⟩
    · have := (cutE_len h3).1; omega
    · rw [h3]; exact hp
  · rcases h3 with ⟨h3, _⟩ | ⟨_, h3, _⟩
    · have := (cutE_len h3).2; omega
    · rw [h3]; simp
  · have := k2 (lbT q) (by rw [e]; simp; exact .inl ⟨q.1, q.2, hq, rfl⟩)
    unfold lbT at this
    rw [List.length_append, List.length_cons] at this
    omega
theorem parse_len {s : Bs} {l : List Lb} (h : parseL s = some l) : l.length ≤ s.length + 1 ∧ ∀ p ∈ l, p.1.length ≤ s.length ∧ p.2.length ≤ s.length := by
  have e := mapM_cut h
  obtain ⟨k1, k2⟩ := split_len s
  rw [e] at k1 k2
  refine ⟨by simpa using k1, fun p hp => ?_⟩
  have := k2 (lbT p) (List.mem_map_of_mem hp)
  unfold lbT at this
  rw [List.length_append, List.length_cons] at this
  omega
end Go.Proofs.YtlpkmghhmpkddaaDoor
