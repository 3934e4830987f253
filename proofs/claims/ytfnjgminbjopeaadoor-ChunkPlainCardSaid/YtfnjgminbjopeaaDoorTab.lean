/- From a row's list with math/bits' table ahead to what the walks ask. -/
import Derived.Test.YtfnjgminbjopeaaDoorSents
import Derived.Test.YtfnjgminbjopeaaDoorMbits
import Derived.Lib.LaidTab
import Derived.Stop.LaidErr
namespace Go.Proofs.YtfnjgminbjopeaaDoor
open Go.RowKit Go.ChangeShapes
set_option linter.unusedVariables false

def tabZ : List Int := Lib.deBruijn64tab.map fun z : Nat => (z : Int)
theorem e_tabG : Tryd.prog.globalNamed "math/bits.deBruijn64tab" = some 15 := by kernel_rfl
theorem tabZ_get (j : Nat) : tabZ.getD j 0 = ((Lib.deBruijn64tab.getD j 0 : Nat) : Int) := by
  unfold tabZ
  rw [List.getD_eq_getElem?_getD, List.getD_eq_getElem?_getD, List.getElem?_map]
  cases Lib.deBruijn64tab[j]? <;> rfl
theorem tab_of_met {W : World} {r : List (String × DataW Unit)} (h : laidMet Tryd.prog (("math/bits.deBruijn64tab", Lib.tabData .u8 tabZ) :: r) W) : TabAt W := by
  have ht := Lib.tabIs_of_head e_tabG (by kernel_rfl) Tryd.underlying267 Tryd.underlying5 (by kernel_rfl) (by kernel_rfl) h
  intro j hj
  have := ht.cell e_tabG j (by simpa [tabZ, Lib.deBruijn64tab] using hj)
  rw [tabZ_get] at this
  exact this
theorem sents_tab {W : World} (h : laidMet Tryd.prog (("math/bits.deBruijn64tab", Lib.tabData .u8 tabZ) :: sentL.map (sentD "*errors.errorString")) W ∧ handlesMet Tryd.prog [etyD] W) : ∃ es, Sents es W.heap.size W ∧ TabAt W := by
  obtain ⟨es, hS⟩ := sents_of_met (laidMet.tail h.1) h.2
  exact ⟨es, hS, tab_of_met h.1⟩
/-- The sentinels of chunks' own code. -/
def sent7 : List (String × List UInt8) := [
  ("tidegauge/api.ErrText", [116, 105, 100, 101, 103, 97, 117, 103, 101, 58, 32, 116, 101, 120, 116]),
  ("tidegauge/api.ErrBound", [116, 105, 100, 101, 103, 97, 117, 103, 101, 58, 32, 98, 111, 117, 110, 100]),
  ("tidegauge/api.ErrShape", [116, 105, 100, 101, 103, 97, 117, 103, 101, 58, 32, 115, 104, 97, 112, 101]),
  ("tidegauge/api.ErrNone", [116, 105, 100, 101, 103, 97, 117, 103, 101, 58, 32, 110, 111, 110, 101]),
  ("tidegauge/api.ErrFull", [116, 105, 100, 101, 103, 97, 117, 103, 101, 58, 32, 102, 117, 108, 108]),
  ("tidegauge/api.ErrOld", [116, 105, 100, 101, 103, 97, 117, 103, 101, 58, 32, 111, 108, 100]),
  ("tidegauge/api.ErrSum", [116, 105, 100, 101, 103, 97, 117, 103, 101, 58, 32, 115, 117, 109])]
def pos7 (k : Nat) : Nat := match k with | 0 => 0 | 1 => 1 | 2 => 2 | 4 => 3 | 6 => 4 | 7 => 5 | _ => 6
theorem sent7_glob (k : Nat) (hk : k < 7) : ∃ x, sent7[k]? = some x ∧ Tryd.prog.globalNamed x.1 = some (gErr ([0, 1, 2, 4, 6, 7, 8].getD k 0)) ∧ (Tryd.prog.globals[gErr ([0, 1, 2, 4, 6, 7, 8].getD k 0)]?).map (·.type) = some 38 := by
  match k, hk with
  | 0, _ => exact ⟨_, rfl, by kernel_rfl, by kernel_rfl⟩
  | 1, _ => exact ⟨_, rfl, by kernel_rfl, by kernel_rfl⟩
  | 2, _ => exact ⟨_, rfl, by kernel_rfl, by kernel_rfl⟩
  | 3, _ => exact ⟨_, rfl, by kernel_rfl, by kernel_rfl⟩
  | 4, _ => exact ⟨_, rfl, by kernel_rfl, by kernel_rfl⟩
  | 5, _ => exact ⟨_, rfl, by kernel_rfl, by kernel_rfl⟩
  | 6, _ => exact ⟨_, rfl, by kernel_rfl, by kernel_rfl⟩
theorem pos7_at {k : Nat} (hk : k ∈ [0, 1, 2, 4, 6, 7, 8]) : pos7 k < 7 ∧ [0, 1, 2, 4, 6, 7, 8].getD (pos7 k) 0 = k := by
  simp at hk
  rcases hk with rfl | rfl | rfl | rfl | rfl | rfl | rfl <;> exact ⟨by decide, rfl⟩
theorem sv_of_met {W : World} (h : laidMet Tryd.prog (sent7.map (sentD "*errors.errorString")) W) : ∃ es : Nat → Addr, SV es W.heap.size W := by
  obtain ⟨ps, hv, hnd, hrows⟩ := h
  have hg : ∀ n ∈ sent7.map (·.1), ∃ g, Tryd.prog.globalNamed n = some g ∧ (Tryd.prog.globals[g]?).map (·.type) = some 38 := by
    intro n hn
    obtain ⟨x, hx, rfl⟩ := List.mem_map.1 hn
    obtain ⟨k, hk, hxk⟩ := List.mem_iff_getElem.1 hx
    obtain ⟨y, hy, h1, h2⟩ := sent7_glob k hk
    have : x = y := Option.some.inj ((by rw [← hxk]; exact (List.getElem?_eq_getElem hk).symm : some x = sent7[k]?).trans hy)
    subst this
    exact ⟨_, h1, h2⟩
  obtain ⟨es, _, _, h3, h4⟩ := laid_sents Tryd.underlying38 e_row Tryd.underlying276 Tryd.underlying294 rfl rfl Tryd.underlying9 (by kernel_rfl) (by kernel_rfl) sent7 ps hv hnd hrows hg
  have hl : es.length = 7 := h3
  have var : ∀ k, k ∈ [0, 1, 2, 4, 6, 7, 8] → W.cell? ⟨gErr k, 0, none⟩ = some (sentV (es.getD (pos7 k) ⟨0, 0, none⟩)) := by
    intro k hk
    obtain ⟨hp, hq⟩ := pos7_at hk
    obtain ⟨x, hx, hxg, _⟩ := sent7_glob (pos7 k) hp
    rw [hq] at hxg
    have he : es[pos7 k]? = some (es.getD (pos7 k) ⟨0, 0, none⟩) := by
      rw [List.getD_eq_getElem?_getD, List.getElem?_eq_getElem (by omega)]; rfl
    have := (h4 (pos7 k) x _ hx he).1
    simpa using World.var?_cell hxg this 0
  exact ⟨fun k => es.getD (pos7 k) ⟨0, 0, none⟩, ⟨var, fun k hk => cell_lt (var k hk)⟩⟩
theorem sv_tab {W : World} (h : laidMet Tryd.prog (("math/bits.deBruijn64tab", Lib.tabData .u8 tabZ) :: sent7.map (sentD "*errors.errorString")) W) : ∃ es, SV es W.heap.size W ∧ TabAt W := by
  obtain ⟨es, hS⟩ := sv_of_met (laidMet.tail h)
  exact ⟨es, hS, tab_of_met h⟩
end Go.Proofs.YtfnjgminbjopeaaDoor
