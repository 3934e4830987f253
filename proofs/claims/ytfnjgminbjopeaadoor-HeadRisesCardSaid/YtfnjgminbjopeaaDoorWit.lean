/- A start that meets a row's list where the list bears tables pinned by name; from such a list to the sentinels. -/
import Derived.Test.YtfnjgminbjopeaaDoorSents
import Derived.Lay
namespace Go.Proofs.YtfnjgminbjopeaaDoor
open Go.RowKit Go.ChangeShapes
set_option linter.unusedVariables false

def plainL (l : List (String × DataW Unit)) : List (String × DataW Unit) := l.filter fun x => x.2.handleName?.isNone
/-- The door's own heap, the list's plain data laid into it. -/
noncomputable def witW (os : Os) (l : List (String × DataW Unit)) : World := (World.doorLaid Tryd.prog 230 os).layVars Tryd.prog (plainL l)
theorem witW_os (os : Os) (l : List (String × DataW Unit)) : (witW os l).os = os := by
  unfold witW
  rw [World.layVars_os]
  rfl
theorem met_wit {os : Os} {l : List (String × DataW Unit)} (args : Array Value) (hf : (World.doorLaid Tryd.prog 230 os).layFits Tryd.prog (plainL l) [] = true)
    (hi : (World.doorLaid Tryd.prog 230 os).layIfaces Tryd.prog (plainL l) (witW os l) = true) : laidMet Tryd.prog (plainL l) ((witW os l).forCall (fun _ _ => 0) ⟨#[], args, []⟩).memory := by
  have e1 : ((plainL l).filter fun x => ((plainL l).map (·.1)).contains x.1) = plainL l := List.filter_eq_self.2 fun x hx => List.contains_iff_mem.2 (List.mem_map.2 ⟨x, hx, rfl⟩)
  have e2 : ((plainL l).filter fun x => !((plainL l).map (·.1)).contains x.1) = [] := List.filter_eq_nil_iff.2 fun x hx => by rw [List.contains_iff_mem.2 (List.mem_map.2 ⟨x, hx, rfl⟩)]; simp
  have h : laidMet Tryd.prog (plainL l) (witW os l) := laidMet_layVars (w0 := World.doorLaid Tryd.prog 230 os) ((plainL l).map (·.1)) [] (by rw [e1]; rfl) (by rw [e1]; exact hf) (by rw [e1]; exact hi) (by rw [e2]; exact LaidIn.none)
  exact h.of_heap (by simp [World.memory, World.forCall, Input.heap])

theorem laidMet_perm {P : Program} {l l' : List (String × DataW Unit)} {w : World} (hp : l.Perm l') (h : laidMet P l w) : laidMet P l' w := by
  obtain ⟨ps, h1, h2, h3⟩ := h
  obtain ⟨ps', g1, g2⟩ := Lay.LaidVars_perm hp h1
  exact ⟨ps', g1, g2.nodup_iff.1 h2, fun b off hb => h3 b off (g2.mem_iff.2 hb)⟩
theorem laidMet_init {P : Program} {l : List (String × DataW Unit)} {x : String × DataW Unit} {w : World} (h : laidMet P (l ++ [x]) w) : laidMet P l w :=
  laidMet.tail (laidMet_perm (List.perm_append_comm (l₁ := l) (l₂ := [x])) h)
theorem sents_lab {W : World} {x y : String × DataW Unit} (h : laidMet Tryd.prog (x :: (sentL.map (sentD "*errors.errorString") ++ [y])) W ∧ handlesMet Tryd.prog [etyD] W) : ∃ es, Sents es W.heap.size W :=
  sents_of_met (laidMet_init (laidMet.tail h.1)) h.2
end Go.Proofs.YtfnjgminbjopeaaDoor
