/- labelled, LongLabels, faulted in the words of EV; labels as an argument, opened. -/
import Derived.Test.YtfnjgminbjopeaaGreatDoorMgag
import Derived.Test.YtfnjgminbjopeaaGreatDoorMgah
namespace Go.Proofs.YtfnjgminbjopeaaGreatDoor
open Go.RowKit Go.ChangeShapes Go.WideShapes Go.ChangeAt
set_option linter.unusedVariables false

theorem lbC_one (l : List Lb) : ∀ u ∈ lbC l, u.oneCell' = true := by
  intro u hu
  unfold lbC at hu
  rw [List.mem_flatMap] at hu
  obtain ⟨p, _, hp⟩ := hu
  simp at hp
  rcases hp with rfl | rfl <;> rfl
/-- Two labels, for 'labelled'. -/
def twoL : List Lb := [([97], [120]), ([98], [49])]
theorem twoL_ok : ∀ j, j < 2 → lbOk twoL j := by
  intro j hj
  rcases (show j = 0 ∨ j = 1 by omega) with rfl | rfl
  · decide
  · decide
/-- Short enough for a statement. -/
def LbSmall (l : List Lb) : Prop := ∀ p ∈ l, p.1.length ≤ 60 ∧ p.2.length ≤ 60
section
variable {H : Type} {enc : TypeId × Value → H} {w : World} {base : Nat} {spare : Nat → Bool} {held : Bool}
theorem cellsLb : Tryz.prog.cellsOf 114 = 2 := by kernel_rfl
theorem cellsStr1 : Tryz.prog.cellsOf 9 = 1 := by kernel_rfl
theorem bytesLb : Tryz.prog.bytesOf 114 = 32 := by kernel_rfl
theorem B8_of (s : ByteArray) : ∃ l : Bs, s = B8 l ∧ l.length = s.size := ⟨s.data.toList, by cases s; rfl, by simp⟩
set_option maxRecDepth 100000 in
/-- A label's two cells. -/
theorem open_label {fuel : Nat} {cs : List Value} {x : DataW H × List MemPlace} (h : DataW.trod enc Tryz.prog w base spare held fuel 114 cs = some x) :
    ∃ p : Lb, cs = [.string (B8 p.1), .string (B8 p.2)] := by
  obtain ⟨y0, y1, n, rfl, hl, h0, h1⟩ := trod_struct2 Tryz.underlying114 h
  rw [cellsLb] at hl
  match cs, hl with
  | [c0, c1], _ =>
    simp only [cellsStr1, List.drop_zero, List.take_succ_cons, List.take_zero, List.drop_succ_cons] at h0 h1
    obtain ⟨a, e0, _, _⟩ := DataW.trod_string Tryz.underlying9 h0
    obtain ⟨b, e1, _, _⟩ := DataW.trod_string Tryz.underlying9 h1
    simp only [List.cons.injEq, and_true] at e0 e1
    subst e0; subst e1
    obtain ⟨la, rfl, _⟩ := B8_of a
    obtain ⟨lb, rfl, _⟩ := B8_of b
    exact ⟨(la, lb), rfl⟩
set_option maxRecDepth 100000 in
/-- A slice of labels, opened. -/
theorem open_labels {fuel : Nat} {cs : List Value} {x : DataW H × List MemPlace} (h : DataW.trod enc Tryz.prog w base spare held fuel 86 cs = some x)
    (hw : (x.1.weights Tryz.prog 86).all (· ≤ reachBytes) = true) :
    ∃ (A : Option Addr) (n c : Nat) (ps : List Lb), cs = [.slice A n c] ∧ n ≤ 140737488351232 ∧ n ≤ c ∧ c ≤ maxLen ∧ Rd w w.heap.size 2 A n (lbC ps) ∧ True := by
  obtain ⟨A, cap, ys, rfl, hc, hm, hys, hrd, hx⟩ := open_rd Tryz.underlying86 cellsLb (by omega) h
  have hpts : ∃ ps : List Lb, ys.map (·.1) = ps.map (fun p => [Value.string (B8 p.1), Value.string (B8 p.2)]) := by
    clear hx hrd hc h hw
    induction ys with
    | nil => exact ⟨[], rfl⟩
    | cons y ys ih =>
      obtain ⟨ps, e⟩ := ih (fun z hz => hys z (by simp [hz]))
      obtain ⟨_, m, q, hq⟩ := hys y (by simp)
      obtain ⟨p, hp⟩ := open_label hq
      exact ⟨p :: ps, by simp [hp, e]⟩
  obtain ⟨ps, e⟩ := hpts
  refine ⟨A, ys.length, cap, ps, rfl, ?_, hc, hm, ?_, trivial⟩
  · rcases hx with ⟨_, rfl⟩ | ⟨sp, hx⟩
    · simp
    · rw [hx] at hw
      have := (weights_slice Tryz.underlying86 hw).1
      rw [bytesLb] at this
      simp only [List.length_map, reachBytes] at this
      omega
  · have : ys.flatMap (·.1) = lbC ps := by
      unfold lbC
      rw [List.flatMap_def, List.flatMap_def, e]
    rw [← this]; exact hrd
end
end Go.Proofs.YtfnjgminbjopeaaGreatDoor
