/- sums.Add, sums.Of, the reference's SumOf, sameSum, by their contracts: for points whose number is at most a million. -/
import Derived.Test.YtfnjgminbjopeaaGreatDoorProg
import Derived.Test.YtfnjgminbjopeaaGreatDoorBase
namespace Go.Proofs.YtfnjgminbjopeaaGreatDoor
open Go.RowKit
set_option linter.unusedVariables false

/-- A sum of points, in numbers. -/
structure Sm where
  c : Int
  lo : Int
  hi : Int
  la : Int
  to : Int

def Sm.zero : Sm := ⟨0, 0, 0, 0, 0⟩
def Sm.one (b : Int) : Sm := ⟨1, b, b, b, b⟩
def addS (a b : Sm) : Sm := if a.c = 0 then b else if b.c = 0 then a else ⟨a.c + b.c, min a.lo b.lo, max a.hi b.hi, b.la, (a.to + b.to) % 18446744073709551616⟩
def ofS (bs : List Int) : Sm := bs.foldl (fun s b => addS s (Sm.one b)) Sm.zero
/-- The reference's step: the i-th value v. -/
def sumRStep (i : Nat) (s : Sm) (v : Int) : Sm := ⟨s.c, if i = 0 then v else min s.lo v, max s.hi v, v, (s.to + v) % 18446744073709551616⟩
def sumRGo (i : Nat) (s : Sm) : List Int → Sm
  | [] => s
  | v :: r => sumRGo (i + 1) (sumRStep i s v) r
def refS (bs : List Int) : Sm := sumRGo 0 ⟨bs.length, 0, 0, 0, 0⟩ bs
/-- Words of 64 bits. -/
def Word (v : Int) : Prop := 0 ≤ v ∧ v < 18446744073709551616

theorem addS_zero (b : Sm) : addS Sm.zero b = b := by simp [addS, Sm.zero]
theorem ofS_snoc (bs : List Int) (b : Int) : ofS (bs ++ [b]) = addS (ofS bs) (Sm.one b) := by simp [ofS, List.foldl_append]
theorem addS_c (a b : Sm) : (addS a b).c = a.c + b.c := by
  unfold addS
  split
  · rename_i h; omega
  · split
    · rename_i h; omega
    · rfl
theorem foldS_c (bs : List Int) : ∀ s : Sm, (bs.foldl (fun s b => addS s (Sm.one b)) s).c = s.c + bs.length := by
  induction bs with
  | nil => intro s; simp
  | cons b bs ih => intro s; rw [List.foldl_cons, ih, addS_c]; simp [Sm.one]; omega
theorem ofS_c (bs : List Int) : (ofS bs).c = bs.length := by
  have := foldS_c bs Sm.zero
  simpa [ofS, Sm.zero] using this
theorem refGo_snoc (b : Int) : ∀ (bs : List Int) (i : Nat) (s : Sm), sumRGo i s (bs ++ [b]) = sumRStep (i + bs.length) (sumRGo i s bs) b
  | [], i, s => by simp [sumRGo]
  | v :: r, i, s => by
    have ih := refGo_snoc b r (i + 1) (sumRStep i s v)
    simp only [List.cons_append, sumRGo, ih, List.length_cons]
    congr 1
    omega

/-- What Of gathers, besides the count: the least, the most, the last, the total. -/
structure SmOk (s : Sm) (bs : List Int) : Prop where
  c : s.c = bs.length
  to : 0 ≤ s.to ∧ s.to < 18446744073709551616
theorem refGo_c (bs : List Int) : ∀ (i : Nat) (s : Sm), (sumRGo i s bs).c = s.c := by
  induction bs with
  | nil => intro i s; rfl
  | cons b bs ih => intro i s; simp only [sumRGo, ih, sumRStep]
theorem addS_one (s : Sm) (b : Int) (hc : s.c ≠ 0) : addS s (Sm.one b) = ⟨s.c + 1, min s.lo b, max s.hi b, b, (s.to + b) % 18446744073709551616⟩ := by
  have h1 : (Sm.one b).c ≠ 0 := by simp [Sm.one]
  unfold addS
  rw [if_neg hc, if_neg h1]
  rfl
theorem ofS_ref (bs : List Int) (h : ∀ b ∈ bs, Word b) : ∀ n : Int, sumRGo 0 ⟨n, 0, 0, 0, 0⟩ bs = ⟨n, (ofS bs).lo, (ofS bs).hi, (ofS bs).la, (ofS bs).to⟩ := by
  induction bs using snoc_ind with
  | h0 => intro n; rfl
  | h1 bs b ih =>
    intro n
    obtain ⟨hb0, hb1⟩ := h b (by simp)
    have ih' := ih (fun x hx => h x (by simp [hx])) n
    rw [refGo_snoc, ih', ofS_snoc]
    rcases bs with _ | ⟨x, r⟩
    · have e : addS (ofS []) (Sm.one b) = Sm.one b := addS_zero _
      rw [e]
      have e2 : ofS [] = Sm.zero := rfl
      rw [e2]
      simp only [sumRStep, List.length_nil, Nat.add_zero, if_true, Sm.zero, Sm.one, Sm.mk.injEq, true_and]
      exact ⟨by omega, by omega⟩
    · have hc : (ofS (x :: r)).c ≠ 0 := by rw [ofS_c]; simp only [List.length_cons]; omega
      rw [addS_one _ _ hc]
      simp only [sumRStep, List.length_cons, Nat.zero_add, if_neg (Nat.succ_ne_zero _)]
theorem ref_of (bs : List Int) (h : ∀ b ∈ bs, Word b) : refS bs = ofS bs := by
  unfold refS
  rw [ofS_ref bs h]
  have := ofS_c bs
  cases hs : ofS bs
  rw [hs] at this
  simp_all
theorem addS_assoc (a b c : Sm) (ha : 0 ≤ a.c) (hb : 0 ≤ b.c) (hc : 0 ≤ c.c) : addS (addS a b) c = addS a (addS b c) := by
  by_cases h1 : a.c = 0
  · simp [addS, h1]
  by_cases h2 : b.c = 0
  · simp [addS, h1, h2]
  by_cases h3 : c.c = 0
  · have : ¬ (a.c + b.c = 0) := by omega
    simp [addS, h1, h2, h3, this]
  · have q1 : ¬ (a.c + b.c = 0) := by omega
    have q2 : ¬ (b.c + c.c = 0) := by omega
    simp only [addS, h1, h2, h3, q1, q2, if_false, Sm.mk.injEq, true_and]
    refine ⟨by omega, by omega, by omega, by omega⟩
theorem ofS_append (xs ys : List Int) : ofS (xs ++ ys) = addS (ofS xs) (ofS ys) := by
  induction ys using snoc_ind with
  | h0 =>
    rw [List.append_nil]
    have : ofS ([] : List Int) = Sm.zero := rfl
    rw [this]
    unfold addS
    split
    · rename_i h
      have hx := ofS_c xs
      have : xs = [] := List.eq_nil_of_length_eq_zero (by omega)
      subst this; rfl
    · simp [Sm.zero]
  | h1 ys y ih =>
    rw [← List.append_assoc, ofS_snoc, ofS_snoc, ih]
    have h1 := ofS_c xs
    have h2 := ofS_c ys
    exact addS_assoc _ _ _ (by omega) (by omega) (by simp [Sm.one])

/-! ### The walks -/
theorem sm_ret {a b c d e a' b' c' d' e' : Int} (h1 : a = a') (h2 : b = b') (h3 : c = c') (h4 : d = d') (h5 : e = e') :
    Ending.returned (.agg #[.int .i64 a, .int .u64 b, .int .u64 c, .int .u64 d, .int .u64 e]) = Ending.returned (.agg #[.int .i64 a', .int .u64 b', .int .u64 c', .int .u64 d', .int .u64 e']) := by
  rw [h1, h2, h3, h4, h5]
end Go.Proofs.YtfnjgminbjopeaaGreatDoor
