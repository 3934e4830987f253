/- From a head's list to the sentinels. -/
import Derived.Test.YtfnjgminbjopeaaDoorWit
import Derived.Test.YtfnjgminbjopeaaDoorLabChk
namespace Go.Proofs.YtfnjgminbjopeaaDoor
open Go.RowKit Go.ChangeShapes
set_option linter.unusedVariables false

/-- The sentinels of a head's own code. -/
def sentH : List (String × List UInt8) := [
  ("tidegauge/api.ErrText", [116, 105, 100, 101, 103, 97, 117, 103, 101, 58, 32, 116, 101, 120, 116]),
  ("tidegauge/api.ErrBound", [116, 105, 100, 101, 103, 97, 117, 103, 101, 58, 32, 98, 111, 117, 110, 100]),
  ("tidegauge/api.ErrShape", [116, 105, 100, 101, 103, 97, 117, 103, 101, 58, 32, 115, 104, 97, 112, 101]),
  ("tidegauge/api.ErrName", [116, 105, 100, 101, 103, 97, 117, 103, 101, 58, 32, 110, 97, 109, 101]),
  ("tidegauge/api.ErrNone", [116, 105, 100, 101, 103, 97, 117, 103, 101, 58, 32, 110, 111, 110, 101]),
  ("tidegauge/api.ErrFull", [116, 105, 100, 101, 103, 97, 117, 103, 101, 58, 32, 102, 117, 108, 108]),
  ("tidegauge/api.ErrOld", [116, 105, 100, 101, 103, 97, 117, 103, 101, 58, 32, 111, 108, 100])]
def posH (k : Nat) : Nat := match k with | 0 => 0 | 1 => 1 | 2 => 2 | 3 => 3 | 4 => 4 | 6 => 5 | _ => 6
theorem sentH_glob (k : Nat) (hk : k < 7) : ∃ x, sentH[k]? = some x ∧ Tryd.prog.globalNamed x.1 = some (gErr ([0, 1, 2, 3, 4, 6, 7].getD k 0)) ∧ (Tryd.prog.globals[gErr ([0, 1, 2, 3, 4, 6, 7].getD k 0)]?).map (·.type) = some 38 := by
  match k, hk with
  | 0, _ => exact ⟨_, rfl, by kernel_rfl, by kernel_rfl⟩
  | 1, _ => exact ⟨_, rfl, by kernel_rfl, by kernel_rfl⟩
  | 2, _ => exact ⟨_, rfl, by kernel_rfl, by kernel_rfl⟩
  | 3, _ => exact ⟨_, rfl, by kernel_rfl, by kernel_rfl⟩
  | 4, _ => exact ⟨_, rfl, by kernel_rfl, by kernel_rfl⟩
  | 5, _ => exact ⟨_, rfl, by kernel_rfl, by kernel_rfl⟩
  | 6, _ => exact ⟨_, rfl, by kernel_rfl, by kernel_rfl⟩
theorem posH_at {k : Nat} (hk : k ∈ [0, 1, 2, 3, 4, 6, 7]) : posH k < 7 ∧ [0, 1, 2, 3, 4, 6, 7].getD (posH k) 0 = k := by
  simp at hk
  rcases hk with rfl | rfl | rfl | rfl | rfl | rfl | rfl <;> exact ⟨by decide, rfl⟩
theorem svl_of_met {W : World} (h : laidMet Tryd.prog (sentH.map (sentD "*errors.errorString")) W) : ∃ es : Nat → Addr, SVL es W.heap.size W := by
  obtain ⟨ps, hv, hnd, hrows⟩ := h
  have hg : ∀ n ∈ sentH.map (·.1), ∃ g, Tryd.prog.globalNamed n = some g ∧ (Tryd.prog.globals[g]?).map (·.type) = some 38 := by
    intro n hn
    obtain ⟨x, hx, rfl⟩ := List.mem_map.1 hn
    obtain ⟨k, hk, hxk⟩ := List.mem_iff_getElem.1 hx
    obtain ⟨y, hy, h1, h2⟩ := sentH_glob k hk
    have : x = y := Option.some.inj ((by rw [← hxk]; exact (List.getElem?_eq_getElem hk).symm : some x = sentH[k]?).trans hy)
    subst this
    exact ⟨_, h1, h2⟩
  obtain ⟨es, _, _, h3, h4⟩ := laid_sents Tryd.underlying38 e_row Tryd.underlying276 Tryd.underlying294 rfl rfl Tryd.underlying9 (by kernel_rfl) (by kernel_rfl) sentH ps hv hnd hrows hg
  have hl : es.length = 7 := h3
  have var : ∀ k, k ∈ [0, 1, 2, 3, 4, 6, 7] → W.cell? ⟨gErr k, 0, none⟩ = some (sentV (es.getD (posH k) ⟨0, 0, none⟩)) := by
    intro k hk
    obtain ⟨hp, hq⟩ := posH_at hk
    obtain ⟨x, hx, hxg, _⟩ := sentH_glob (posH k) hp
    rw [hq] at hxg
    have he : es[posH k]? = some (es.getD (posH k) ⟨0, 0, none⟩) := by
      rw [List.getD_eq_getElem?_getD, List.getElem?_eq_getElem (by omega)]; rfl
    have := (h4 (posH k) x _ hx he).1
    simpa using World.var?_cell hxg this 0
  exact ⟨fun k => es.getD (posH k) ⟨0, 0, none⟩, ⟨var, fun k hk => cell_lt (var k hk)⟩⟩
theorem svl_head {W : World} {x y : String × DataW Unit} (h : laidMet Tryd.prog (x :: (sentH.map (sentD "*errors.errorString") ++ [y])) W) : ∃ es, SVL es W.heap.size W := svl_of_met (laidMet_init (laidMet.tail h))
end Go.Proofs.YtfnjgminbjopeaaDoor
