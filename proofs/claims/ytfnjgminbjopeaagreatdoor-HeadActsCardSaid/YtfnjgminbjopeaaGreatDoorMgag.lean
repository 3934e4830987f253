/- label.Text and the reference's LabelsText by contracts. -/
import Derived.Test.YtfnjgminbjopeaaGreatDoorMgab
import Derived.Test.YtfnjgminbjopeaaGreatDoorLabChkQ
import Derived.Test.YtfnjgminbjopeaaGreatDoorLabFQ
namespace Go.Proofs.YtfnjgminbjopeaaGreatDoor
open Go.RowKit
set_option linter.unusedVariables false

theorem infoStr : (Tryz.prog.info? 9).map (fun i => (i.zero, i.size, i.bytes)) = some (some (.string ⟨#[]⟩), 1, 16) := by kernel_rfl
def strC (xs : List Bs) : List Value := xs.map fun x => .string (B8 x)
theorem strC_one (xs : List Bs) : ∀ u ∈ strC xs, u.oneCell' = true := by
  intro u hu
  obtain ⟨x, _, rfl⟩ := List.mem_map.1 hu
  rfl
theorem lbT_le {p : Lb} (h1 : nameB p.1 = true) (h2 : wordB p.2 = true) : (lbT p).length ≤ 25 := by
  have e1 := nameB_word h1
  unfold wordB at e1 h2
  rw [Bool.and_eq_true, decide_eq_true_iff] at e1 h2
  unfold lbT
  rw [List.length_append, List.length_cons]
  omega
theorem lab_at {l : List Lb} {k : Nat} {y : Lb} (hy : l[k]? = some y) (h : ∀ j, j < l.length → lbOk l j) : nameB y.1 = true ∧ wordB y.2 = true := by
  obtain ⟨hk, rfl⟩ := List.getElem?_eq_some_iff.1 hy
  obtain ⟨h1, h2, _⟩ := h k hk
  have e : lbAt l k = l[k] := getD_lb (List.getElem?_eq_getElem hk)
  rw [e] at h1 h2
  exact ⟨h1, h2⟩
theorem joinTail_len (xs : List Bs) (h : ∀ x ∈ xs, x.length ≤ 25) : (Lib.joinTail [44] xs).length ≤ 26 * xs.length := by
  induction xs with
  | nil => simp [Lib.joinTail]
  | cons x xs ih =>
    have h1 := h x List.mem_cons_self
    have h2 := ih (fun y hy => h y (List.mem_cons_of_mem _ hy))
    simp only [Lib.joinTail, List.map_cons, List.flatten_cons, List.length_append, List.length_cons, List.length_nil] at h2 ⊢
    omega
theorem textL_len {l : List Lb} (h6 : l.length ≤ 6) (h : ∀ j, j < l.length → lbOk l j) : (textL l).length ≤ 1000 := by
  have hb : ∀ x ∈ l.map lbT, x.length ≤ 25 := fun x hx => by
    obtain ⟨p, hp, rfl⟩ := List.mem_map.1 hx
    obtain ⟨j, hj⟩ := List.getElem?_of_mem hp
    obtain ⟨h1, h2⟩ := lab_at hj h
    exact lbT_le h1 h2
  unfold textL
  cases l with
  | nil => simp [Lib.join_nil]
  | cons p l =>
    rw [List.map_cons, Lib.join_cons, List.length_append]
    have h1 := hb (lbT p) (by simp)
    have h2 := joinTail_len (l.map lbT) (fun x hx => hb x (by simp at hx ⊢; exact .inr hx))
    rw [List.length_map] at h2
    rw [List.length_cons] at h6
    omega

theorem text_snoc (l : List Lb) (q : Lb) : textL (l ++ [q]) = if l = [] then lbT q else textL l ++ 44 :: lbT q := by
  unfold textL
  cases l with
  | nil => rw [if_pos rfl]; exact Lib.join_one _ _
  | cons p l =>
    rw [if_neg (by simp), List.map_append, List.map_cons, List.cons_append, Lib.join_cons, Lib.join_cons]
    simp [Lib.joinTail]

end Go.Proofs.YtfnjgminbjopeaaGreatDoor

namespace Go.Proofs.YtfnjgminbjopeaaGreatDoor
open Go.RowKit
set_option linter.unusedVariables false

end Go.Proofs.YtfnjgminbjopeaaGreatDoor
