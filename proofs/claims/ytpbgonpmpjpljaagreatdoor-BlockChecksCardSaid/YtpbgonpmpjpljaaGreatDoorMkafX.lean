/- From a row's list with math/bits' table ahead to what the walks ask. -/
import Derived.Test.YtpbgonpmpjpljaaGreatDoorMkbX
import Derived.Test.YtpbgonpmpjpljaaGreatDoorMbitsX
import Derived.Lib.LaidTab
import Derived.Stop.LaidErr
import Derived.Test.YtpbgonpmpjpljaaGreatDoorMkoX
import Derived.Test.YtpbgonpmpjpljaaGreatDoorMkuX
namespace Go.Proofs.YtpbgonpmpjpljaaGreatDoor
open Go.RowKit Go.ChangeShapes
set_option linter.unusedVariables false

def tabZ : List Int := Lib.deBruijn64tab.map fun z : Nat => (z : Int)
theorem e_tabG : Tryz.prog.globalNamed "math/bits.deBruijn64tab" = some 15 := by kernel_rfl
theorem tabZ_get (j : Nat) : tabZ.getD j 0 = ((Lib.deBruijn64tab.getD j 0 : Nat) : Int) := by
  unfold tabZ
  rw [List.getD_eq_getElem?_getD, List.getD_eq_getElem?_getD, List.getElem?_map]
  cases Lib.deBruijn64tab[j]? <;> rfl
theorem tab_of_met {W : World} {r : List (String × DataW Unit)} (h : laidMet Tryz.prog (("math/bits.deBruijn64tab", Lib.tabData .u8 tabZ) :: r) W) : TabAt W := by
  have ht := Lib.tabIs_of_head e_tabG (by kernel_rfl) Tryz.underlying265 Tryz.underlying5 (by kernel_rfl) (by kernel_rfl) h
  intro j hj
  have := ht.cell e_tabG j (by simpa [tabZ, Lib.deBruijn64tab] using hj)
  rw [tabZ_get] at this
  exact this
end Go.Proofs.YtpbgonpmpjpljaaGreatDoor

namespace Go.Proofs.YtpbgonpmpjpljaaGreatDoor
open Go.RowKit Go.ChangeShapes
set_option linter.unusedVariables false

end Go.Proofs.YtpbgonpmpjpljaaGreatDoor

namespace Go.Proofs.YtpbgonpmpjpljaaGreatDoor
open Go.RowKit Go.ChangeShapes
set_option linter.unusedVariables false

theorem p10_of_met {W : World} {r : List (String × DataW Unit)} (h : laidMet Tryz.prog (("internal/strconv.uint64pow10", Lib.tabData .u64 Lib.pow10Tab) :: r) W) : P10 W.heap.size W := by
  have ht := Lib.tabIs_of_head e_p10 (by kernel_rfl) Tryz.underlying221 Tryz.underlying55 (by kernel_rfl) (by kernel_rfl) h
  exact ⟨ht, cell_lt (ht.cell e_p10 0 (by decide))⟩
theorem blkC_of_met {W : World} {d32 acc first : String × DataW Unit} (h : laidMet Tryz.prog (d32 :: ("math/bits.deBruijn64tab", Lib.tabData .u8 tabZ) :: ("internal/strconv.uint64pow10", Lib.tabData .u64 Lib.pow10Tab) :: acc :: (sentL.map (sentD "*errors.errorString") ++ [first])) W ∧ handlesMet Tryz.prog [etyD] W) :
    ∃ es, BlkW es W.heap.size W ∧ Sents es W.heap.size W ∧ P10 W.heap.size W := by
  obtain ⟨h, hh⟩ := h
  have h1 := laidMet.tail h
  have h2 := laidMet.tail h1
  obtain ⟨es, hS⟩ := sents_of_met (laidMet_init (laidMet.tail (laidMet.tail h2))) hh
  have ht := tab_of_met h1
  exact ⟨es, ⟨hS.bk, ht, cell_lt (ht 0 (by decide)), Nat.le_refl _⟩, hS, p10_of_met h2⟩
end Go.Proofs.YtpbgonpmpjpljaaGreatDoor
