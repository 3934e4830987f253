/- From a row's list (errors' own type and the eleven sentinels) to what the walks ask. -/
import Derived.Test.YtfkklcmepcocoaaDoorMhaa
import Derived.Test.YtfkklcmepcocoaaDoorCode
import Derived.Lay
namespace Go.Proofs.YtfkklcmepcocoaaDoor
open Go.RowKit Go.ChangeShapes
set_option linter.unusedVariables false

/-- The sentinels' names and texts, in plain.Code's order. -/
def sentL : List (String × List UInt8) := [
  ("tidegauge/api.ErrText", [116, 105, 100, 101, 103, 97, 117, 103, 101, 58, 32, 116, 101, 120, 116]),
  ("tidegauge/api.ErrBound", [116, 105, 100, 101, 103, 97, 117, 103, 101, 58, 32, 98, 111, 117, 110, 100]),
  ("tidegauge/api.ErrShape", [116, 105, 100, 101, 103, 97, 117, 103, 101, 58, 32, 115, 104, 97, 112, 101]),
  ("tidegauge/api.ErrName", [116, 105, 100, 101, 103, 97, 117, 103, 101, 58, 32, 110, 97, 109, 101]),
  ("tidegauge/api.ErrNone", [116, 105, 100, 101, 103, 97, 117, 103, 101, 58, 32, 110, 111, 110, 101]),
  ("tidegauge/api.ErrExist", [116, 105, 100, 101, 103, 97, 117, 103, 101, 58, 32, 101, 120, 105, 115, 116]),
  ("tidegauge/api.ErrFull", [116, 105, 100, 101, 103, 97, 117, 103, 101, 58, 32, 102, 117, 108, 108]),
  ("tidegauge/api.ErrOld", [116, 105, 100, 101, 103, 97, 117, 103, 101, 58, 32, 111, 108, 100]),
  ("tidegauge/api.ErrSum", [116, 105, 100, 101, 103, 97, 117, 103, 101, 58, 32, 115, 117, 109]),
  ("tidegauge/api.ErrOff", [116, 105, 100, 101, 103, 97, 117, 103, 101, 58, 32, 111, 102, 102]),
  ("tidegauge/api.ErrKind", [116, 105, 100, 101, 103, 97, 117, 103, 101, 58, 32, 107, 105, 110, 100])]
theorem e_star : "*" ++ "errors.errorString" = "*errors.errorString" := by decide
theorem e_row (u : TypeId) (h : Tryd.prog.typeName? 3 u = some "*errors.errorString") : u = 131 :=
  typeName_ptr_named (nm := "errors.errorString") (by rw [e_star]; kernel_rfl) (by kernel_rfl) (by decide) u (by rw [e_star]; exact h)
theorem e_types : Tryd.prog.types.size = 249 - 100 := by kernel_rfl
theorem e_oneRow : ((List.range (249 - 100)).filter fun t => Tryd.prog.rowNamed t [101, 114, 114, 111, 114]) = [25] := by kernel_rfl
def etyD : String × DataW Unit := ("errors.errorType", .iface "internal/reflectlite.rtype" (.agg [.ptr (.lit (.string [101, 114, 114, 111, 114]))]))

theorem cell_lt {W : World} {g i : Nat} {v : Value} (h : W.cell? ⟨g, i, none⟩ = some v) : g < W.heap.size := by
  rcases Nat.lt_or_ge g W.heap.size with h' | h'
  · exact h'
  · simp [World.cell?, Array.getElem?_eq_none h'] at h

end Go.Proofs.YtfkklcmepcocoaaDoor

namespace Go.Proofs.YtfkklcmepcocoaaDoor
open Go.RowKit Go.ChangeShapes
set_option linter.unusedVariables false

def plainL (l : List (String × DataW Unit)) : List (String × DataW Unit) := l.filter fun x => x.2.handleName?.isNone
/-- The door's own heap, the list's plain data laid into it. -/
noncomputable def witW (os : Os) (l : List (String × DataW Unit)) : World := (World.doorLaid Tryd.prog 230 os).layVars Tryd.prog (plainL l)
theorem witW_os (os : Os) (l : List (String × DataW Unit)) : (witW os l).os = os := by
  unfold witW
  rw [World.layVars_os]
  rfl
theorem met_wit {os : Os} {l : List (String × DataW Unit)} (args : Array Value) (hf : (World.doorLaid Tryd.prog 230 os).layFits Tryd.prog (plainL l) [] = true)
    (hi : (World.doorLaid Tryd.prog 230 os).layIfaces Tryd.prog (plainL l) (witW os l) = true) : laidMet Tryd.prog (plainL l) ((witW os l).forCall (fun _ _ => 0) ⟨#[], args, []⟩).memory := by
  have e1 : ((plainL l).filter fun x => ((plainL l).map (·.1)).contains x.1) = plainL l := List.filter_eq_self.2 fun x hx => List.contains_iff_mem.2 (List.mem_map.2 ⟨x, hx, rfl⟩)
  have e2 : ((plainL l).filter fun x => !((plainL l).map (·.1)).contains x.1) = [] := List.filter_eq_nil_iff.2 fun x hx => by rw [List.contains_iff_mem.2 (List.mem_map.2 ⟨x, hx, rfl⟩)]; simp
  have h : laidMet Tryd.prog (plainL l) (witW os l) := laidMet_layVars (w0 := World.doorLaid Tryd.prog 230 os) ((plainL l).map (·.1)) [] (by rw [e1]; rfl) (by rw [e1]; exact hf) (by rw [e1]; exact hi) (by rw [e2]; exact LaidIn.none)
  exact h.of_heap (by simp [World.memory, World.forCall, Input.heap])

theorem laidMet_perm {P : Program} {l l' : List (String × DataW Unit)} {w : World} (hp : l.Perm l') (h : laidMet P l w) : laidMet P l' w := by
  obtain ⟨ps, h1, h2, h3⟩ := h
  obtain ⟨ps', g1, g2⟩ := Lay.LaidVars_perm hp h1
  exact ⟨ps', g1, g2.nodup_iff.1 h2, fun b off hb => h3 b off (g2.mem_iff.2 hb)⟩
theorem laidMet_init {P : Program} {l : List (String × DataW Unit)} {x : String × DataW Unit} {w : World} (h : laidMet P (l ++ [x]) w) : laidMet P l w :=
  laidMet.tail (laidMet_perm (List.perm_append_comm (l₁ := l) (l₂ := [x])) h)
end Go.Proofs.YtfkklcmepcocoaaDoor
