/- Two lists of points as one: plain facts. -/
import Derived.Laws.Bits64
namespace Go.Proofs.YtfnjgminbjopeaaDoor
open Go
set_option linter.unusedVariables false

def mergeP : List (Int × Int) → List (Int × Int) → List (Int × Int)
  | [], b => b
  | a :: as, [] => a :: as
  | a :: as, b :: bs => if a.1 < b.1 then a :: mergeP as (b :: bs) else if b.1 < a.1 then b :: mergeP (a :: as) bs else mergeP as (b :: bs)
termination_by a b => a.length + b.length
theorem merge_nil (a : List (Int × Int)) : mergeP a [] = a := by cases a <;> rw [mergeP]
theorem merge_lt {a b : Int × Int} {as bs : List (Int × Int)} (h : a.1 < b.1) : mergeP (a :: as) (b :: bs) = a :: mergeP as (b :: bs) := by rw [mergeP, if_pos h]
theorem merge_gt {a b : Int × Int} {as bs : List (Int × Int)} (h : b.1 < a.1) : mergeP (a :: as) (b :: bs) = b :: mergeP (a :: as) bs := by rw [mergeP, if_neg (by omega), if_pos h]
theorem merge_eq {a b : Int × Int} {as bs : List (Int × Int)} (h : a.1 = b.1) : mergeP (a :: as) (b :: bs) = mergeP as (b :: bs) := by rw [mergeP, if_neg (by omega), if_neg (by omega)]
theorem merge_len (a b : List (Int × Int)) : (mergeP a b).length ≤ a.length + b.length := by
  fun_induction mergeP a b with
  | case1 => simp
  | case2 => simp
  | case3 a as b bs h ih => simp only [List.length_cons] at *; omega
  | case4 a as b bs h h2 ih => simp only [List.length_cons] at *; omega
  | case5 a as b bs h h2 ih => simp only [List.length_cons] at *; omega
theorem merge_mem {a b : List (Int × Int)} {x : Int × Int} (h : x ∈ mergeP a b) : x ∈ a ∨ x ∈ b := by
  revert h
  fun_induction mergeP a b with
  | case1 => exact .inr
  | case2 => exact .inl
  | case3 a as b bs h ih =>
    intro hx
    rcases List.mem_cons.1 hx with rfl | hx
    · exact .inl List.mem_cons_self
    · rcases ih hx with h | h
      · exact .inl (List.mem_cons_of_mem _ h)
      · exact .inr h
  | case4 a as b bs h h2 ih =>
    intro hx
    rcases List.mem_cons.1 hx with rfl | hx
    · exact .inr List.mem_cons_self
    · rcases ih hx with h | h
      · exact .inl h
      · exact .inr (List.mem_cons_of_mem _ h)
  | case5 a as b bs h h2 ih =>
    intro hx
    rcases ih hx with h | h
    · exact .inl (List.mem_cons_of_mem _ h)
    · exact .inr h
def Rises (l : List (Int × Int)) : Prop := l.Pairwise fun p q => p.1 < q.1
theorem merge_rises {a b : List (Int × Int)} (ha : Rises a) (hb : Rises b) : Rises (mergeP a b) := by
  revert ha hb
  fun_induction mergeP a b with
  | case1 => exact fun _ h => h
  | case2 => exact fun h _ => h
  | case3 a as b bs h ih =>
    intro ha hb
    have h1 := List.pairwise_cons.1 ha
    have h2 := List.pairwise_cons.1 hb
    refine List.pairwise_cons.2 ⟨fun x hx => ?_, ih h1.2 hb⟩
    rcases merge_mem hx with hx | hx
    · exact h1.1 x hx
    · rcases List.mem_cons.1 hx with rfl | hx
      · exact h
      · have := h2.1 x hx; omega
  | case4 a as b bs h h2 ih =>
    intro ha hb
    have h1 := List.pairwise_cons.1 ha
    have h3 := List.pairwise_cons.1 hb
    refine List.pairwise_cons.2 ⟨fun x hx => ?_, ih ha h3.2⟩
    rcases merge_mem hx with hx | hx
    · rcases List.mem_cons.1 hx with rfl | hx
      · exact h2
      · have := h1.1 x hx; omega
    · exact h3.1 x hx
  | case5 a as b bs h h2 ih => exact fun ha hb => ih (List.pairwise_cons.1 ha).2 hb
theorem merge_skip {b : Int × Int} {m bs : List (Int × Int)} (h : ∀ x ∈ m, b.1 < x.1) : mergeP m (b :: bs) = b :: mergeP m bs := by
  cases m with
  | nil => rw [mergeP, mergeP]
  | cons x m => exact merge_gt (h x List.mem_cons_self)
theorem merge_self : ∀ {l : List (Int × Int)}, Rises l → mergeP l l = l
  | [], _ => by rw [mergeP]
  | b :: bs, h => by
    have h1 := List.pairwise_cons.1 h
    rw [merge_eq rfl, merge_skip h1.1, merge_self h1.2]
theorem merge_mb {a b : List (Int × Int)} (ha : Rises a) (hb : Rises b) : mergeP (mergeP a b) b = mergeP a b := by
  revert ha hb
  fun_induction mergeP a b with
  | case1 => exact fun _ h => merge_self h
  | case2 => exact fun h _ => merge_nil _
  | case3 a as b bs h ih =>
    intro ha hb
    rw [merge_lt h, ih (List.pairwise_cons.1 ha).2 hb]
  | case4 a as b bs h h2 ih =>
    intro ha hb
    have h1 := List.pairwise_cons.1 ha
    have h3 := List.pairwise_cons.1 hb
    rw [merge_eq rfl, merge_skip, ih ha h3.2]
    intro x hx
    rcases merge_mem hx with hx | hx
    · rcases List.mem_cons.1 hx with rfl | hx
      · exact h2
      · have := h1.1 x hx; omega
    · exact h3.1 x hx
  | case5 a as b bs h h2 ih => exact fun ha hb => ih (List.pairwise_cons.1 ha).2 hb
theorem merge_am {a b : List (Int × Int)} (ha : Rises a) (hb : Rises b) : mergeP a (mergeP a b) = mergeP a b := by
  revert ha hb
  fun_induction mergeP a b with
  | case1 => intro _ _; rw [mergeP]
  | case2 => exact fun h _ => merge_self h
  | case3 a as b bs h ih =>
    intro ha hb
    have h1 := List.pairwise_cons.1 ha
    rw [merge_eq rfl, merge_skip h1.1, ih h1.2 hb]
  | case4 a as b bs h h2 ih =>
    intro ha hb
    rw [merge_gt h2, ih ha (List.pairwise_cons.1 hb).2]
  | case5 a as b bs h h2 ih =>
    intro ha hb
    have h1 := List.pairwise_cons.1 ha
    have ih' := ih h1.2 hb
    have e : mergeP as (b :: bs) = b :: mergeP as bs := merge_skip (fun x hx => by have := h1.1 x hx; omega)
    rw [e] at ih' ⊢
    rw [merge_eq (by omega), ih']
end Go.Proofs.YtfnjgminbjopeaaDoor
