/- Two lists of rows, names rising, as one: as the reference's JoinOf does it; plain. -/
import Derived.Test.YtpbgonpmpjpljaaGreatDoorJoinQX
import Derived.Test.YtpbgonpmpjpljaaGreatDoorRMakeQX
import Derived.Test.YtpbgonpmpjpljaaGreatDoorMkwX
namespace Go.Proofs.YtpbgonpmpjpljaaGreatDoor
open Go.RowKit Go.Sort
set_option linter.unusedVariables false

/-- Two lists of rows as one, names rising. -/
def mrg : List Rw → List Rw → List Rw
  | [], Y => Y
  | x :: X, [] => x :: X
  | x :: X, y :: Y => if x.1 = y.1 then (x.1, x.2 ++ y.2) :: mrg X Y else if x.1 < y.1 then x :: mrg X (y :: Y) else y :: mrg (x :: X) Y
termination_by X Y => X.length + Y.length
theorem mrg_l (Y : List Rw) : mrg [] Y = Y := by rw [mrg]
theorem mrg_r (X : List Rw) : mrg X [] = X := by cases X <;> rw [mrg]
theorem mrg_eq {x y : Rw} (X Y : List Rw) (h : x.1 = y.1) : mrg (x :: X) (y :: Y) = (x.1, x.2 ++ y.2) :: mrg X Y := by rw [mrg, if_pos h]
theorem mrg_lt {x y : Rw} (X Y : List Rw) (h : x.1 < y.1) : mrg (x :: X) (y :: Y) = x :: mrg X (y :: Y) := by
  rw [mrg, if_neg (fun e => by rw [e] at h; exact lt_irrefl_bs _ h), if_pos h]
theorem mrg_gt {x y : Rw} (X Y : List Rw) (h : y.1 < x.1) : mrg (x :: X) (y :: Y) = y :: mrg (x :: X) Y := by
  rw [mrg, if_neg (fun e => by rw [e] at h; exact lt_irrefl_bs _ h), if_neg (lt_asymm_bs h)]
abbrev Rise (X : List Rw) : Prop := (X.map Prod.fst).Pairwise (· < ·)
theorem Rise.tail {x : Rw} {X : List Rw} (h : Rise (x :: X)) : Rise X := (List.pairwise_cons.1 h).2
theorem Rise.head {x : Rw} {X : List Rw} (h : Rise (x :: X)) {r : Rw} (hr : r ∈ X) : x.1 < r.1 := (List.pairwise_cons.1 h).1 _ (List.mem_map_of_mem hr)
theorem Rise.cons {x : Rw} {X : List Rw} (h : Rise X) (hx : ∀ r ∈ X, x.1 < r.1) : Rise (x :: X) := by
  refine List.pairwise_cons.2 ⟨fun s hs => ?_, h⟩
  obtain ⟨r, hr, rfl⟩ := List.mem_map.1 hs
  exact hx r hr
theorem catP_head {x : Rw} {X : List Rw} (h : Rise (x :: X)) : catP (x :: X) x.1 = x.2 := by
  have e : catP (x :: X) x.1 = x.2 ++ catP X x.1 := by simp [catP]
  rw [e, catP_none (fun r hr e => by have := h.head hr; rw [e] at this; exact lt_irrefl_bs _ this), List.append_nil]
theorem catP_skip {x : Rw} {X : List Rw} {s : Bs} (h : x.1 ≠ s) : catP (x :: X) s = catP X s := by simp [catP, h]
theorem catP_low {X : List Rw} {s : Bs} (h : ∀ r ∈ X, s < r.1) : catP X s = [] := catP_none fun r hr e => by have := h r hr; rw [e] at this; exact lt_irrefl_bs _ this
/-- What two lists as one are. -/
structure MrgIs (X Y M : List Rw) : Prop where
  rise : Rise M
  mem : ∀ s, (∃ r ∈ M, r.1 = s) ↔ (∃ r ∈ X, r.1 = s) ∨ ∃ r ∈ Y, r.1 = s
  pts : ∀ r ∈ M, r.2 = catP X r.1 ++ catP Y r.1
theorem catP_own {X : List Rw} (h : Rise X) : ∀ r ∈ X, catP X r.1 = r.2 := by
  induction X with
  | nil => intro r hr; cases hr
  | cons x X ih =>
    intro r hr
    rcases List.mem_cons.1 hr with rfl | hr
    · exact catP_head h
    · rw [catP_skip (fun e => by have := h.head hr; rw [e] at this; exact lt_irrefl_bs _ this)]
      exact ih h.tail r hr
theorem mrg_is : ∀ (k : Nat) (X Y : List Rw), X.length + Y.length ≤ k → Rise X → Rise Y → MrgIs X Y (mrg X Y) := by
  intro k
  induction k with
  | zero =>
    intro X Y hk hX hY
    obtain rfl : X = [] := List.eq_nil_of_length_eq_zero (by omega)
    rw [mrg_l]
    exact ⟨hY, fun s => by simp, fun r hr => by rw [catP_own hY r hr]; rfl⟩
  | succ k ih =>
    intro X Y hk hX hY
    match X, Y with
    | [], Y =>
      rw [mrg_l]
      exact ⟨hY, fun s => by simp, fun r hr => by rw [catP_own hY r hr]; rfl⟩
    | x :: X, [] =>
      rw [mrg_r]
      exact ⟨hX, fun s => by simp, fun r hr => by rw [catP_own hX r hr]; simp [catP]⟩
    | x :: X, y :: Y =>
      simp only [List.length_cons] at hk
      have low : ∀ {A B M : List Rw} {s : Bs}, MrgIs A B M → (∀ r ∈ A, s < r.1) → (∀ r ∈ B, s < r.1) → ∀ r ∈ M, s < r.1 := by
        intro A B M s h h1 h2 r hr
        rcases (h.mem r.1).1 ⟨r, hr, rfl⟩ with ⟨q, hq, e⟩ | ⟨q, hq, e⟩
        · rw [← e]; exact h1 q hq
        · rw [← e]; exact h2 q hq
      rcases lt_or_bs x.1 y.1 with h | h | h
      · rw [mrg_lt X Y h]
        have hi := ih X (y :: Y) (by simp only [List.length_cons]; omega) hX.tail hY
        have hyl : ∀ r ∈ y :: Y, x.1 < r.1 := fun r hr => by
          rcases List.mem_cons.1 hr with rfl | hr
          · exact h
          · exact List.lt_trans h (hY.head hr)
        have hl := low hi (fun r hr => hX.head hr) hyl
        refine ⟨hi.rise.cons hl, fun s => ?_, fun r hr => ?_⟩
        · have := hi.mem s
          simp only [List.mem_cons, exists_eq_or_imp] at this ⊢
          rw [this]
          simp only [or_assoc]
        · rcases List.mem_cons.1 hr with rfl | hr
          · rw [catP_head hX, catP_low hyl, List.append_nil]
          · rw [hi.pts r hr, catP_skip (x := x) (X := X) (fun e => by have := hl r hr; rw [e] at this; exact lt_irrefl_bs _ this)]
      · rw [mrg_eq X Y h]
        have hi := ih X Y (by omega) hX.tail hY.tail
        have hl := low hi (fun r hr => hX.head hr) (fun r hr => by rw [h]; exact hY.head hr)
        refine ⟨hi.rise.cons hl, fun s => ?_, fun r hr => ?_⟩
        · have := hi.mem s
          simp only [List.mem_cons, exists_eq_or_imp] at this ⊢
          rw [this, h]
          constructor
          · rintro (h1 | h1 | h1)
            · exact .inl (.inl h1)
            · exact .inl (.inr h1)
            · exact .inr (.inr h1)
          · rintro ((h1 | h1) | (h1 | h1))
            · exact .inl h1
            · exact .inr (.inl h1)
            · exact .inl h1
            · exact .inr (.inr h1)
        · rcases List.mem_cons.1 hr with rfl | hr
          · show x.2 ++ y.2 = catP (x :: X) x.1 ++ catP (y :: Y) x.1
            rw [catP_head hX, h, catP_head hY]
          · have hne := hl r hr
            rw [hi.pts r hr, catP_skip (x := x) (X := X) (fun e => by rw [e] at hne; exact lt_irrefl_bs _ hne), catP_skip (x := y) (X := Y) (fun e => by rw [← h] at e; rw [e] at hne; exact lt_irrefl_bs _ hne)]
      · rw [mrg_gt X Y h]
        have hi := ih (x :: X) Y (by simp only [List.length_cons]; omega) hX hY.tail
        have hxl : ∀ r ∈ x :: X, y.1 < r.1 := fun r hr => by
          rcases List.mem_cons.1 hr with rfl | hr
          · exact h
          · exact List.lt_trans h (hX.head hr)
        have hl := low hi hxl (fun r hr => hY.head hr)
        refine ⟨hi.rise.cons hl, fun s => ?_, fun r hr => ?_⟩
        · have := hi.mem s
          simp only [List.mem_cons, exists_eq_or_imp] at this ⊢
          rw [this]
          constructor
          · rintro (h1 | (h1 | h1) | h1)
            · exact .inr (.inl h1)
            · exact .inl (.inl h1)
            · exact .inl (.inr h1)
            · exact .inr (.inr h1)
          · rintro ((h1 | h1) | (h1 | h1))
            · exact .inr (.inl (.inl h1))
            · exact .inr (.inl (.inr h1))
            · exact .inl h1
            · exact .inr (.inr h1)
        · rcases List.mem_cons.1 hr with rfl | hr
          · rw [catP_head hY, catP_low hxl, List.nil_append]
          · have hne := hl r hr
            rw [hi.pts r hr, catP_skip (x := y) (X := Y) (fun e => by rw [e] at hne; exact lt_irrefl_bs _ hne)]
theorem mrg_both {X Y : List Rw} (hX : Rise X) (hY : Rise Y) : mrg X Y = bothR (X ++ Y) := by
  have h := mrg_is _ X Y (Nat.le_refl _) hX hY
  generalize mrg X Y = M at h
  have hn : M.map Prod.fst = srtN (X ++ Y) := by
    have hp : (M.map Prod.fst).Perm (onceN ((X ++ Y).map Prod.fst)) := by
      refine (List.perm_ext_iff_of_nodup (h.rise.imp fun {a b} hab e => by subst e; exact lt_irrefl_bs _ hab) (onceN_nodup _)).2 fun s => ?_
      rw [onceN_mem, List.mem_map, List.mem_map]
      refine (h.mem s).trans ?_
      constructor
      · rintro (⟨r, hr, e⟩ | ⟨r, hr, e⟩)
        · exact ⟨r, List.mem_append_left _ hr, e⟩
        · exact ⟨r, List.mem_append_right _ hr, e⟩
      · rintro ⟨r, hr, e⟩
        rcases List.mem_append.1 hr with hr | hr
        · exact .inl ⟨r, hr, e⟩
        · exact .inr ⟨r, hr, e⟩
    unfold srtN
    rw [← mergeSort_of_perm hp]
    exact (List.mergeSort_of_pairwise (List.Pairwise.imp (fun {x y} hxy => by simp only [leB, decide_eq_true_eq]; exact List.le_of_lt hxy) h.rise)).symm
  unfold bothR
  rw [← hn, List.map_map]
  conv => lhs; rw [← List.map_id M]
  refine List.map_congr_left fun r hr => ?_
  show r = (r.1, catP (X ++ Y) r.1)
  rw [catP_append, ← h.pts r hr]
end Go.Proofs.YtpbgonpmpjpljaaGreatDoor

namespace Go.Proofs.YtpbgonpmpjpljaaGreatDoor
open Go.RowKit
set_option linter.unusedVariables false

/-- The name of a round. -/
def nmJ : Option Rw → Option Rw → Bs
  | some x, some y => if leS x.1 y.1 = true then x.1 else y.1
  | some x, none => x.1
  | none, some y => y.1
  | none, none => []
def tkJ (o : Option Rw) (s : Bs) : List (Int × Int) := match o with | some r => if r.1 = s then r.2 else [] | none => []
def tnJ (o : Option Rw) (s : Bs) : Nat := match o with | some r => if r.1 = s then 1 else 0 | none => 0
theorem leS_iff {a b : Bs} : leS a b = true ↔ a < b ∨ a = b := by
  unfold leS
  rw [bytesLess_lt]
  simp
theorem drop_some {X : List Rw} {i : Nat} {x : Rw} (h : X[i]? = some x) : X.drop i = x :: X.drop (i + 1) := by
  obtain ⟨hi, rfl⟩ := List.getElem?_eq_some_iff.1 h
  exact List.drop_eq_getElem_cons hi
theorem drop_none {X : List Rw} {i : Nat} (h : X[i]? = none) : X.drop i = [] := List.drop_eq_nil_of_le (List.getElem?_eq_none_iff.1 h)
/-- One round. -/
theorem mrg_step {X Y : List Rw} {i k : Nat} {s : Bs} (hne : i < X.length ∨ k < Y.length) (hs : s = nmJ X[i]? Y[k]?) :
    mrg (X.drop i) (Y.drop k) = (s, tkJ X[i]? s ++ tkJ Y[k]? s) :: mrg (X.drop (i + tnJ X[i]? s)) (Y.drop (k + tnJ Y[k]? s)) := by
  cases hx : X[i]? with
  | none =>
    cases hy : Y[k]? with
    | none =>
      have h1 := List.getElem?_eq_none_iff.1 hx
      have h2 := List.getElem?_eq_none_iff.1 hy
      omega
    | some y =>
      rw [hx, hy] at hs
      have hs : s = y.1 := hs
      subst hs
      rw [drop_none hx, drop_some hy, mrg_l]
      simp only [tkJ, tnJ, if_true, List.nil_append, Nat.add_zero]
      rw [drop_none hx, mrg_l]
  | some x =>
    cases hy : Y[k]? with
    | none =>
      rw [hx, hy] at hs
      have hs : s = x.1 := hs
      subst hs
      rw [drop_some hx, drop_none hy, mrg_r]
      simp only [tkJ, tnJ, if_true, List.append_nil, Nat.add_zero]
      rw [drop_none hy, mrg_r]
    | some y =>
      rw [hx, hy] at hs
      have hs : s = if leS x.1 y.1 = true then x.1 else y.1 := hs
      rw [drop_some hx, drop_some hy]
      rcases lt_or_bs x.1 y.1 with h | h | h
      · rw [if_pos (leS_iff.2 (.inl h))] at hs
        subst hs
        have hne : ¬ y.1 = x.1 := fun e => by rw [e] at h; exact lt_irrefl_bs _ h
        rw [mrg_lt _ _ h]
        simp only [tkJ, tnJ, if_true, if_neg hne, List.append_nil, Nat.add_zero]
        rw [drop_some hy]
      · rw [if_pos (leS_iff.2 (.inr h))] at hs
        subst hs
        rw [mrg_eq _ _ h]
        simp only [tkJ, tnJ, if_true, if_pos h.symm]
      · rw [if_neg (fun e => by
          rcases leS_iff.1 e with h1 | h1
          · exact lt_asymm_bs h h1
          · rw [h1] at h; exact lt_irrefl_bs _ h)] at hs
        subst hs
        have hne : ¬ x.1 = y.1 := fun e => by rw [e] at h; exact lt_irrefl_bs _ h
        rw [mrg_gt _ _ h]
        simp only [tkJ, tnJ, if_true, if_neg hne, List.nil_append, Nat.add_zero]
        rw [drop_some hx]
/-- The round as the loop has it. -/
theorem mrg_round {X Y S : List Rw} {i k : Nat} {s : Bs} (h : S ++ mrg (X.drop i) (Y.drop k) = mrg X Y) (hne : i < X.length ∨ k < Y.length) (hs : s = nmJ X[i]? Y[k]?) :
    (S ++ [(s, tkJ X[i]? s ++ tkJ Y[k]? s)]) ++ mrg (X.drop (i + tnJ X[i]? s)) (Y.drop (k + tnJ Y[k]? s)) = mrg X Y := by
  rw [← h, mrg_step hne hs, List.append_assoc]
  rfl
theorem tnJ_le (X : List Rw) (i : Nat) (s : Bs) (hi : i ≤ X.length) : i + tnJ X[i]? s ≤ X.length := by
  cases hx : X[i]? with
  | none => exact hi
  | some x =>
    have := (List.getElem?_eq_some_iff.1 hx).1
    unfold tnJ
    dsimp only
    split <;> omega
/-- A round takes one at the least. -/
theorem tnJ_one {X Y : List Rw} {i k : Nat} {s : Bs} (hne : i < X.length ∨ k < Y.length) (hs : s = nmJ X[i]? Y[k]?) : 1 ≤ tnJ X[i]? s + tnJ Y[k]? s := by
  cases hx : X[i]? with
  | none =>
    cases hy : Y[k]? with
    | none =>
      have h1 := List.getElem?_eq_none_iff.1 hx
      have h2 := List.getElem?_eq_none_iff.1 hy
      omega
    | some y =>
      rw [hx, hy] at hs
      have hs : s = y.1 := hs
      subst hs
      simp [tnJ]
  | some x =>
    cases hy : Y[k]? with
    | none =>
      rw [hx, hy] at hs
      have hs : s = x.1 := hs
      subst hs
      simp [tnJ]
    | some y =>
      rw [hx, hy] at hs
      have hs : s = if leS x.1 y.1 = true then x.1 else y.1 := hs
      split at hs <;> subst hs <;> simp [tnJ] <;> omega
theorem mrg_end {X Y S : List Rw} {i k : Nat} (h : S ++ mrg (X.drop i) (Y.drop k) = mrg X Y) (hi : X.length ≤ i) (hk : Y.length ≤ k) : S = mrg X Y := by
  rw [List.drop_eq_nil_of_le hi, List.drop_eq_nil_of_le hk, mrg_l, List.append_nil] at h
  exact h
theorem firstBad_all {g : Nat → PRes} {n : Nat} (h : firstBad g n = none) : ∀ i, i < n → ∃ l, g i = .ok l := by
  induction n with
  | zero => intro i hi; omega
  | succ n ih =>
    intro i hi
    unfold firstBad at h
    cases hf : firstBad g n with
    | some x => rw [hf] at h; cases h
    | none =>
      rw [hf] at h
      rcases Nat.lt_or_ge i n with h1 | h1
      · exact ih hf i h1
      · obtain rfl : i = n := by omega
        cases hg : g i with
        | err c => rw [hg] at h; cases h
        | ok l => exact ⟨l, rfl⟩
/-- The rows of a right block rise. -/
theorem rowsR_rise {fr sp : Int} {N : List Bs} {K : List (List Nat)} (h : (rowsR fr sp N K).1.1 = 0) : Rise (rowsR fr sp N K).2 := by
  unfold rowsR at h ⊢
  split at h
  · cases h
  rename_i h1
  rw [if_neg h1]
  split at h
  · cases h
  rename_i h2
  rw [if_neg h2]
  split at h
  · cases h
  rename_i h3
  rw [if_neg h3]
  split at h
  · cases h
  · rename_i h4
    have hall := firstBad_all h4
    have hd : ∀ i, i < N.length → dupB N i = false := fun i hi => by
      obtain ⟨l, hl⟩ := hall i hi
      unfold oneR oneV at hl
      split at hl
      · cases hl
      split at hl
      · cases hl
      · rename_i hd
        simpa using hd
    have hN : ((List.range N.length).map fun i => (N.getD i [], okL (oneR fr (fr + sp) N K i))).map Prod.fst = N := by
      rw [List.map_map]
      refine List.ext_getElem (by simp) fun i h5 h6 => ?_
      simp [List.getD_eq_getElem?_getD, List.getElem?_eq_getElem h6]
    show (List.map Prod.fst _).Pairwise (· < ·)
    rw [hN]
    exact dupB_rise hd
/-- What JoinOf answers. -/
def rjR (x y : BArg) : RdB := ((joinR x y).1, if (joinR x y).1.1 = 0 then (x.fr, x.sp + y.sp) else (0, 0), (joinR x y).2)
theorem rjR_x {x y : BArg} {c : Nat} {a : Int} {L : List Rw} (h : rowsR x.fr x.sp x.N x.K = ((c, a), L)) (hc : c ≠ 0) : rjR x y = ((c, a), (0, 0), []) := by
  have : joinR x y = ((c, a), []) := by unfold joinR; rw [h]; exact if_pos hc
  unfold rjR
  rw [this]
  simp only
  rw [if_neg hc]
theorem rjR_y {x y : BArg} {c : Nat} {a : Int} {L : List Rw} (h0 : (rowsR x.fr x.sp x.N x.K).1.1 = 0) (h : rowsR y.fr y.sp y.N y.K = ((c, a), L)) (hc : c ≠ 0) : rjR x y = ((c, a), (0, 0), []) := by
  have : joinR x y = ((c, a), []) := by unfold joinR; rw [if_neg (fun e => e h0), h]; exact if_pos hc
  unfold rjR
  rw [this]
  simp only
  rw [if_neg hc]
theorem rjR_s {x y : BArg} (h0 : (rowsR x.fr x.sp x.N x.K).1.1 = 0) (h1 : (rowsR y.fr y.sp y.N y.K).1.1 = 0) (hc : x.fr + x.sp ≠ y.fr) : rjR x y = ((3, -1), (0, 0), []) := by
  have : joinR x y = ((3, -1), []) := by unfold joinR; rw [if_neg (fun e => e h0), if_neg (fun e => e h1), if_pos hc]
  unfold rjR
  rw [this]
  rfl
theorem rjR_b {x y : BArg} (h0 : (rowsR x.fr x.sp x.N x.K).1.1 = 0) (h1 : (rowsR y.fr y.sp y.N y.K).1.1 = 0) (hc : x.fr + x.sp = y.fr) (hb : 100000 < x.sp + y.sp) : rjR x y = ((2, -1), (0, 0), []) := by
  have : joinR x y = ((2, -1), []) := by unfold joinR; rw [if_neg (fun e => e h0), if_neg (fun e => e h1), if_neg (fun e => e hc), if_pos hb]
  unfold rjR
  rw [this]
  rfl
/-- The rows of a right block rise. -/
theorem joinR_m {x y : BArg} {X Y : List Rw} (hx : rowsR x.fr x.sp x.N x.K = ((0, -1), X)) (hy : rowsR y.fr y.sp y.N y.K = ((0, -1), Y)) (hX : Rise X) (hY : Rise Y) (hc : x.fr + x.sp = y.fr) (hb : ¬ 100000 < x.sp + y.sp) :
    joinR x y = if (makeR x.fr (x.sp + y.sp) (mrg X Y)).1.1 ≠ 0 then ((2, -1), []) else makeR x.fr (x.sp + y.sp) (mrg X Y) := by
  unfold joinR
  rw [hx, hy, if_neg (fun e => e rfl), if_neg (fun e => e rfl), if_neg (fun e => e hc), if_neg hb, mrg_both hX hY]
theorem rjR_bad {x y : BArg} {X Y : List Rw} (hx : rowsR x.fr x.sp x.N x.K = ((0, -1), X)) (hy : rowsR y.fr y.sp y.N y.K = ((0, -1), Y)) (hX : Rise X) (hY : Rise Y) (hc : x.fr + x.sp = y.fr) (hb : ¬ 100000 < x.sp + y.sp)
    (hm : (makeR x.fr (x.sp + y.sp) (mrg X Y)).1.1 ≠ 0) : rjR x y = ((2, -1), (0, 0), []) := by
  unfold rjR
  rw [joinR_m hx hy hX hY hc hb, if_pos hm]
  rfl
theorem rjR_ok {x y : BArg} {X Y : List Rw} (hx : rowsR x.fr x.sp x.N x.K = ((0, -1), X)) (hy : rowsR y.fr y.sp y.N y.K = ((0, -1), Y)) (hX : Rise X) (hY : Rise Y) (hc : x.fr + x.sp = y.fr) (hb : ¬ 100000 < x.sp + y.sp)
    (hm : (makeR x.fr (x.sp + y.sp) (mrg X Y)).1.1 = 0) : rjR x y = rmR x.fr (x.sp + y.sp) (mrg X Y) := by
  unfold rjR rmR
  rw [joinR_m hx hy hX hY hc hb, if_neg (fun e => e hm)]
end Go.Proofs.YtpbgonpmpjpljaaGreatDoor

namespace Go.Proofs.YtpbgonpmpjpljaaGreatDoor
open Go.RowKit
set_option linter.unusedVariables false

/-- What stands between two rounds: the set that grows, all else as at the loop's start. -/
structure JI (w W : World) (q : Nat) (sv lv : Value) (N : List Bs) (Q : List PtV) : Prop where
  st : SetAt W (fun k => w.heap.size ≤ k) q sv lv N Q
  bl : Below w.heap.size w W
theorem JI.below {w W W' : World} {q : Nat} {sv lv : Value} {N : List Bs} {Q : List PtV} (h : JI w W q sv lv N Q) (hb : Below W.heap.size W W') : JI w W' q sv lv N Q :=
  ⟨h.st.below hb, Below.call h.bl hb h.bl.size⟩
theorem JI.room {w W : World} {q : Nat} {sv lv : Value} {N : List Bs} {Q : List PtV} (h : JI w W q sv lv N Q) : w.heap.size ≤ W.heap.size ∧ q < W.heap.size := ⟨h.bl.size, h.st.hd.lt⟩
theorem JI.drew {w W : World} {q : Nat} {sv lv : Value} {N : List Bs} {Q : List PtV} (h : JI w W q sv lv N Q) : JI w W.drew q sv lv N Q := h.below (Below.drew (Below.refl _ _))
theorem JI.drewN {w W : World} {q : Nat} {sv lv : Value} {N : List Bs} {Q : List PtV} (h : JI w W q sv lv N Q) (n : Nat) : JI w (W.drewN n) q sv lv N Q := h.below (Below.drewN (Below.refl _ _) n)
/-- In the midst of a round: points of one's own stand beside. -/
structure JM (w W : World) (q : Nat) (sv lv : Value) (N : List Bs) (Q : List PtV) (pv : Value) (ps : List (Int × Int)) : Prop where
  iv : JI w W q sv lv N Q
  pt : W.ownsRow w.heap.size 57 2 pv ps.length (ptsC ps)
theorem JM.new {w W : World} {q : Nat} {sv lv : Value} {N : List Bs} {Q : List PtV} (h : JI w W q sv lv N Q) : JM w W q sv lv N Q (.slice none 0 0) [] := ⟨h, World.ownsRow_nil _ _ _ _⟩
theorem JM.below {w W W' : World} {q : Nat} {sv lv pv : Value} {N : List Bs} {Q : List PtV} {ps : List (Int × Int)} (h : JM w W q sv lv N Q pv ps) (hb : Below W.heap.size W W') : JM w W' q sv lv N Q pv ps := ⟨h.iv.below hb, own_below h.pt hb (Nat.le_refl _)⟩
theorem JM.drew {w W : World} {q : Nat} {sv lv pv : Value} {N : List Bs} {Q : List PtV} {ps : List (Int × Int)} (h : JM w W q sv lv N Q pv ps) : JM w W.drew q sv lv N Q pv ps := h.below (Below.drew (Below.refl _ _))
theorem JM.drewN {w W : World} {q : Nat} {sv lv pv : Value} {N : List Bs} {Q : List PtV} {ps : List (Int × Int)} (h : JM w W q sv lv N Q pv ps) (n : Nat) : JM w (W.drewN n) q sv lv N Q pv ps := h.below (Below.drewN (Below.refl _ _) n)
/-- No row of the set stands in this slice's block. -/
def FreshJ (Q : List PtV) (pv : Value) : Prop := ∀ r ∈ Q, ∀ k, r.v.ownBlock = some k → pv.ownBlock ≠ some k
theorem FreshJ.nil (Q : List PtV) : FreshJ Q (.slice none 0 0) := fun r hr k hk e => by cases e
/-- The first points. -/
theorem JI.first {w W wa : World} {q : Nat} {sv lv pv' : Value} {N : List Bs} {Q : List PtV} {ls : List (Int × Int)} (h : JI w W q sv lv N Q) (hf : Fr (fun _ => False) W wa) (ho : wa.ownsRow W.heap.size 57 2 pv' ls.length (ptsC ls)) : JM w wa q sv lv N Q pv' ls ∧ FreshJ Q pv' :=
  ⟨⟨h.below (hf.below (Nat.le_refl _) (fun _ _ h => h)), own_base ho h.room.1⟩, fun r hr k hk e => by
    have h1 := (own_lt ho k e).1
    have h2 := (own_lt (h.st.pts r hr) k hk).2
    omega⟩
/-- Points behind the points. -/
theorem JM.more {w W wa : World} {q : Nat} {sv lv pv pv' : Value} {N : List Bs} {Q : List PtV} {ps ls : List (Int × Int)} (h : JM w W q sv lv N Q pv ps) (hQ : FreshJ Q pv) (hf : Fr (fun k => pv.ownBlock = some k) W wa) (ho : wa.ownsRow w.heap.size 57 2 pv' (ps ++ ls).length (ptsC (ps ++ ls))) : JM w wa q sv lv N Q pv' (ps ++ ls) := by
  have hS : Strange (fun k => pv.ownBlock = some k) W [65, 9, 32] := Strange.own h.pt (by decide)
  have hs := h.iv.st
  have hfr : Fr (fun k => w.heap.size ≤ k) w wa := Fr.trans ((Fr.ofBelow h.iv.bl).mono (fun i hi e => e.elim)) hf (fun i hi e => absurd (own_lt h.pt i e).1 (by omega))
  exact ⟨⟨⟨hf.blk hs.hd (hS.not hs.hd (by simp)), hf.own hs.nms (hS.notOwn hs.nms (by simp)), hf.own hs.rows (hS.notOwn hs.rows (by simp)), fun r hr => hf.own (hs.pts r hr) (fun k hk e => hQ r hr k hk e), hs.gh, hs.gs, hs.gl, hs.gp⟩, hfr.below (Nat.le_refl _) (fun k hk e => by omega)⟩, ho⟩
/-- A name more. -/
theorem JM.name {w W wa : World} {q : Nat} {sv sv' lv pv : Value} {N : List Bs} {Q : List PtV} {ps : List (Int × Int)} (h : JM w W q sv lv N Q pv ps) {s : Bs} (hf : Fr (fun k => sv.ownBlock = some k) W wa) {base : Nat} (ho : wa.ownsRow base 9 1 sv' (N.length + 1) (txC N ++ [.string (B8 s)])) (hG : ∀ k, sv'.ownBlock = some k → w.heap.size ≤ k) :
    (wa.cell? ⟨q, 0, none⟩ = some sv ∧ wa.frozen? ⟨q, 0, none⟩ = false) ∧ JM w (wa.setCell ⟨q, 0, none⟩ sv') q sv' lv (N ++ [s]) Q pv ps := by
  obtain ⟨h1, h2⟩ := h.iv.st.name hf ho hG
  have hq : w.heap.size ≤ q := h.iv.st.gh
  have hS1 : Strange (fun k => sv.ownBlock = some k) W [57, 65] := Strange.own h.iv.st.nms (by decide)
  have hqb := hf.blk h.iv.st.hd (hS1.not h.iv.st.hd (by simp))
  have hS2 : Strange (fun k => k = q) wa [57] := Strange.blk hqb (by decide)
  have hfr : Fr (fun k => w.heap.size ≤ k) w wa := Fr.trans ((Fr.ofBelow h.iv.bl).mono (fun i hi e => e.elim)) hf (fun i hi e => absurd (h.iv.st.gs i e) (by omega))
  have hfr2 : Fr (fun k => w.heap.size ≤ k) w (wa.setCell ⟨q, 0, none⟩ sv') := Fr.trans hfr h2 (fun i hi e => by subst e; omega)
  exact ⟨⟨hqb.cell 0, hqb.frozen 0⟩, ⟨h1, hfr2.below (Nat.le_refl _) (fun k hk e => by omega)⟩, own_far (own_far h.pt hf hS1 (by simp)) h2 hS2 (by simp)⟩
/-- Points more. -/
theorem JM.row {w W wa : World} {q : Nat} {sv lv lv' pv : Value} {N : List Bs} {Q : List PtV} {ps : List (Int × Int)} (h : JM w W q sv lv N Q pv ps) (hf : Fr (fun k => lv.ownBlock = some k) W wa) {base : Nat} (ho : wa.ownsRow base 32 1 lv' (Q.length + 1) ((Q.map fun r => r.v) ++ [pv])) (hG : ∀ k, lv'.ownBlock = some k → w.heap.size ≤ k) :
    (wa.cell? ⟨q, 1, none⟩ = some lv ∧ wa.frozen? ⟨q, 1, none⟩ = false) ∧ JI w (wa.setCell ⟨q, 1, none⟩ lv') q sv lv' N (Q ++ [⟨pv, ps⟩]) := by
  obtain ⟨h1, h2⟩ := h.iv.st.row (r := ⟨pv, ps⟩) hf ho hG h.pt (fun k hk => (own_lt h.pt k hk).1)
  have hq : w.heap.size ≤ q := h.iv.st.gh
  have hS1 : Strange (fun k => lv.ownBlock = some k) W [65] := Strange.own h.iv.st.rows (by decide)
  have hqb := hf.blk h.iv.st.hd (hS1.not h.iv.st.hd (by simp))
  have hfr : Fr (fun k => w.heap.size ≤ k) w wa := Fr.trans ((Fr.ofBelow h.iv.bl).mono (fun i hi e => e.elim)) hf (fun i hi e => absurd (h.iv.st.gl i e) (by omega))
  have hfr2 : Fr (fun k => w.heap.size ≤ k) w (wa.setCell ⟨q, 1, none⟩ lv') := Fr.trans hfr h2 (fun i hi e => by subst e; omega)
  exact ⟨⟨hqb.cell 1, hqb.frozen 1⟩, ⟨h1, hfr2.below (Nat.le_refl _) (fun k hk e => by omega)⟩⟩
/-- What a set that is read holds, in each later world. -/
theorem SetRd.hold {w : World} {q : Nat} {S : List Rw} (h : SetRd w w.heap.size q S) : ∃ (An : Option Addr) (cn : Nat) (Al : Option Addr) (cl : Nat), ∀ W, Below w.heap.size w W → (W.cell? ⟨q, 0, none⟩ = some (.slice An S.length cn) ∧ W.cell? ⟨q, 1, none⟩ = some (.slice Al S.length cl)) ∧
    ∀ (i : Nat) (r : Rw), S[i]? = some r → ∃ b0 o0 b1 o1 A c, An = some ⟨b0, o0, none⟩ ∧ Al = some ⟨b1, o1, none⟩ ∧ W.cell? ⟨b0, o0 + i, none⟩ = some (.string (B8 r.1)) ∧ W.cell? ⟨b1, o1 + i, none⟩ = some (.slice A r.2.length c) ∧ Rd W W.heap.size 2 A r.2.length (ptsC r.2) := by
  obtain ⟨An, cn, Al, cl, h0, h1⟩ := h.hd
  refine ⟨An, cn, Al, cl, fun W hb => ⟨⟨(hb.cell (p := ⟨q, 0, none⟩) h.1).trans h0, (hb.cell (p := ⟨q, 1, none⟩) h.1).trans h1⟩, fun i r hr => ?_⟩⟩
  have hi := (List.getElem?_eq_some_iff.1 hr).1
  obtain ⟨b0, o0, cn', b1, o1, cl', r', A, c, hr', e0, e1, x0, x1, _, hrd⟩ := (h.below hb (Nat.le_refl _)).at_ hi
  rw [(hb.cell (p := ⟨q, 0, none⟩) h.1).trans h0] at e0
  rw [(hb.cell (p := ⟨q, 1, none⟩) h.1).trans h1] at e1
  injection e0 with e0
  injection e0 with e0 _ _
  injection e1 with e1
  injection e1 with e1 _ _
  obtain rfl := Option.some.inj (hr.symm.trans hr')
  exact ⟨b0, o0, b1, o1, A, c, e0, e1, x0, x1, hrd.more hb.size⟩
theorem ptsC_app (a b : List (Int × Int)) : ptsC (a ++ b) = ptsC a ++ ptsC b := by unfold ptsC; rw [List.flatMap_append]
theorem JI.firstA {w W wa : World} {q : Nat} {sv lv pv' : Value} {N : List Bs} {Q : List PtV} {ls : List (Int × Int)} (h : JI w W q sv lv N Q) (hgr : W.grownBy wa (Value.slice none 0 0).ownBlock) (ho : wa.ownsRow W.heap.size 57 2 pv' (0 + ls.length) ([] ++ ptsC ls)) : JM w wa q sv lv N Q pv' ls ∧ FreshJ Q pv' := by
  rw [Nat.zero_add, List.nil_append] at ho
  exact h.first ((Fr.refl _ W).grown hgr (fun k hk => by cases hk)) ho
theorem JM.moreA {w W wa : World} {q : Nat} {sv lv pv pv' : Value} {N : List Bs} {Q : List PtV} {ps ls : List (Int × Int)} (h : JM w W q sv lv N Q pv ps) (hQ : FreshJ Q pv) (hgr : W.grownBy wa pv.ownBlock) (ho : wa.ownsRow w.heap.size 57 2 pv' (ps.length + ls.length) (ptsC ps ++ ptsC ls)) : JM w wa q sv lv N Q pv' (ps ++ ls) := by
  rw [← List.length_append, ← ptsC_app] at ho
  exact h.more hQ ((Fr.refl _ W).grown hgr (fun k hk => .inr hk)) ho
theorem mrg_facts {X Y : List Rw} (hX : Rise X) (hY : Rise Y) (h1 : ∀ r ∈ X, r.1.length ≤ 100000) (h2 : ∀ r ∈ Y, r.1.length ≤ 100000) (h3 : ∀ r ∈ X, ∀ p ∈ r.2, 0 ≤ p.2 ∧ p.2 < 18446744073709551616) (h4 : ∀ r ∈ Y, ∀ p ∈ r.2, 0 ≤ p.2 ∧ p.2 < 18446744073709551616) :
    ∀ r ∈ mrg X Y, r.1.length ≤ 100000 ∧ ∀ p ∈ r.2, 0 ≤ p.2 ∧ p.2 < 18446744073709551616 := by
  rw [mrg_both hX hY]
  intro r hr
  exact ⟨bothR_names (fun q hq => (List.mem_append.1 hq).elim (h1 q) (h2 q)) r hr, bothR_vals (fun q hq => (List.mem_append.1 hq).elim (h3 q) (h4 q)) r hr⟩
/-- Which list a round's name is of. -/
def pkJ (xo yo : Option Rw) : Bool := match yo with
  | none => true
  | some y => match xo with
    | some x => leS x.1 y.1
    | none => false
theorem nmJ_x {x : Rw} {yo : Option Rw} (h : pkJ (some x) yo = true) : nmJ (some x) yo = x.1 := by
  cases yo with
  | none => rfl
  | some y => exact if_pos h
theorem nmJ_y {y : Rw} {xo : Option Rw} (h : pkJ xo (some y) = false) : nmJ xo (some y) = y.1 := by
  cases xo with
  | none => rfl
  | some x =>
    have h : leS x.1 y.1 = false := h
    show (if leS x.1 y.1 = true then x.1 else y.1) = y.1
    rw [if_neg (by rw [h]; decide)]
theorem optJ (X : List Rw) (i : Nat) (hi : i ≤ X.length) : (X[i]? = none ∧ i = X.length) ∨ ∃ x, X[i]? = some x ∧ i < X.length := by
  cases h : X[i]? with
  | none => exact .inl ⟨rfl, Nat.le_antisymm hi (List.getElem?_eq_none_iff.1 h)⟩
  | some x => exact .inr ⟨x, rfl, (List.getElem?_eq_some_iff.1 h).1⟩
theorem B8_eqb (a b : Bs) : ((B8 a).toList == (B8 b).toList) = decide (a = b) := by
  rw [B8_toList, B8_toList]
  by_cases h : a = b
  · rw [h, decide_eq_true rfl]; exact beq_self_eq_true _
  · rw [decide_eq_false h]; exact beq_eq_false_iff_ne.2 h
theorem tnJ_dec (x : Rw) (s : Bs) : decide (tnJ (some x) s = 1) = decide (x.1 = s) := by
  unfold tnJ
  by_cases h : x.1 = s
  · simp [h]
  · simp [h]
theorem tnJ_is (xo : Option Rw) (s : Bs) : (tnJ xo s = 0 ∧ tkJ xo s = []) ∨ ∃ x, xo = some x ∧ x.1 = s ∧ tnJ xo s = 1 ∧ tkJ xo s = x.2 := by
  cases xo with
  | none => exact .inl ⟨rfl, rfl⟩
  | some x =>
    by_cases h : x.1 = s
    · exact .inr ⟨x, rfl, h, if_pos h, if_pos h⟩
    · exact .inl ⟨if_neg h, if_neg h⟩
end Go.Proofs.YtpbgonpmpjpljaaGreatDoor
