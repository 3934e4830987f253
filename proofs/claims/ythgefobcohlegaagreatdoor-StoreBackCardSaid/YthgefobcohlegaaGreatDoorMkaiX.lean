/- From a log's list of variables, with errors' own type and all sentinels, to what the walks ask. -/
import Derived.Test.YthgefobcohlegaaGreatDoorMkbX
import Derived.Test.YthgefobcohlegaaGreatDoorMkwX
import Derived.Lib.LaidTab
import Derived.Test.YthgefobcohlegaaGreatDoorMkyX
namespace Go.Proofs.YthgefobcohlegaaGreatDoor
open Go.RowKit Go.ChangeShapes
set_option linter.unusedVariables false

def tabZ : List Int := Lib.deBruijn64tab.map fun z : Nat => (z : Int)
theorem e_tabG : Tryz.prog.globalNamed "math/bits.deBruijn64tab" = some 19 := by kernel_rfl
theorem tabZ_get (j : Nat) : tabZ.getD j 0 = ((Lib.deBruijn64tab.getD j 0 : Nat) : Int) := by
  unfold tabZ
  rw [List.getD_eq_getElem?_getD, List.getD_eq_getElem?_getD, List.getElem?_map]
  cases Lib.deBruijn64tab[j]? <;> rfl
theorem tab_of_met {W : World} {r : List (String × DataW Unit)} (h : laidMet Tryz.prog (("math/bits.deBruijn64tab", Lib.tabData .u8 tabZ) :: r) W) : TabAt W ∧ 19 < W.heap.size := by
  have ht := Lib.tabIs_of_head e_tabG (by kernel_rfl) Tryz.underlying332 Tryz.underlying5 (by kernel_rfl) (by kernel_rfl) h
  have hc : TabAt W := by
    intro j hj
    have := ht.cell e_tabG j (by simpa [tabZ, Lib.deBruijn64tab] using hj)
    rw [tabZ_get] at this
    exact this
  exact ⟨hc, cell_lt (hc 0 (by decide))⟩
theorem p10_of_met {W : World} {r : List (String × DataW Unit)} (h : laidMet Tryz.prog (("internal/strconv.uint64pow10", Lib.tabData .u64 Lib.pow10Tab) :: r) W) : Lib.TabIs Tryz.prog W "internal/strconv.uint64pow10" .u64 Lib.pow10Tab ∧ 17 < W.heap.size := by
  have ht := Lib.tabIs_of_head e_p10 (by kernel_rfl) Tryz.underlying304 Tryz.underlying33 (by kernel_rfl) (by kernel_rfl) h
  exact ⟨ht, cell_lt (ht.cell e_p10 0 (by decide))⟩
/-- strconv's sentinels. -/
def sent2 : List (String × List UInt8) := [
  ("strconv.ErrRange", [118, 97, 108, 117, 101, 32, 111, 117, 116, 32, 111, 102, 32, 114, 97, 110, 103, 101]),
  ("strconv.ErrSyntax", [105, 110, 118, 97, 108, 105, 100, 32, 115, 121, 110, 116, 97, 120])]
def gA (k : Nat) : Nat := [16, 15].getD k (gErr (k - 2))
end Go.Proofs.YthgefobcohlegaaGreatDoor

namespace Go.Proofs.YthgefobcohlegaaGreatDoor
open Go.RowKit Go.ChangeShapes
set_option linter.unusedVariables false

def sent10 : List (String × List UInt8) := [
  ("tidegauge/api.ErrText", [116, 105, 100, 101, 103, 97, 117, 103, 101, 58, 32, 116, 101, 120, 116]),
  ("tidegauge/api.ErrBound", [116, 105, 100, 101, 103, 97, 117, 103, 101, 58, 32, 98, 111, 117, 110, 100]),
  ("tidegauge/api.ErrShape", [116, 105, 100, 101, 103, 97, 117, 103, 101, 58, 32, 115, 104, 97, 112, 101]),
  ("tidegauge/api.ErrName", [116, 105, 100, 101, 103, 97, 117, 103, 101, 58, 32, 110, 97, 109, 101]),
  ("tidegauge/api.ErrNone", [116, 105, 100, 101, 103, 97, 117, 103, 101, 58, 32, 110, 111, 110, 101]),
  ("tidegauge/api.ErrFull", [116, 105, 100, 101, 103, 97, 117, 103, 101, 58, 32, 102, 117, 108, 108]),
  ("tidegauge/api.ErrOld", [116, 105, 100, 101, 103, 97, 117, 103, 101, 58, 32, 111, 108, 100]),
  ("tidegauge/api.ErrSum", [116, 105, 100, 101, 103, 97, 117, 103, 101, 58, 32, 115, 117, 109]),
  ("tidegauge/api.ErrOff", [116, 105, 100, 101, 103, 97, 117, 103, 101, 58, 32, 111, 102, 102]),
  ("tidegauge/api.ErrKind", [116, 105, 100, 101, 103, 97, 117, 103, 101, 58, 32, 107, 105, 110, 100])]
def sentT : List (String × List UInt8) := sent2 ++ sent10
/-- The number of the sentinel at a place of the list. -/
def num10 (k : Nat) : Nat := [0, 1, 2, 3, 4, 6, 7, 8, 9, 10].getD k 0
def pos10 (k : Nat) : Nat := if k < 5 then k else k - 1
def gT (k : Nat) : Nat := [16, 15].getD k (gErr (num10 (k - 2)))
theorem sentT_glob /- 1 10 -/ (k : Nat) (hk : k < 12) : ∃ x, sentT[k]? = some x ∧ Tryz.prog.globalNamed x.1 = some (gT k) ∧ (Tryz.prog.globals[gT k]?).map (·.type) = some 26 := by
  match k, hk with
  | 0, _ => exact ⟨_, rfl, by kernel_rfl, by kernel_rfl⟩
  | 1, _ => exact ⟨_, rfl, by kernel_rfl, by kernel_rfl⟩
  | 2, _ => exact ⟨_, rfl, by kernel_rfl, by kernel_rfl⟩
  | 3, _ => exact ⟨_, rfl, by kernel_rfl, by kernel_rfl⟩
  | 4, _ => exact ⟨_, rfl, by kernel_rfl, by kernel_rfl⟩
  | 5, _ => exact ⟨_, rfl, by kernel_rfl, by kernel_rfl⟩
  | 6, _ => exact ⟨_, rfl, by kernel_rfl, by kernel_rfl⟩
  | 7, _ => exact ⟨_, rfl, by kernel_rfl, by kernel_rfl⟩
  | 8, _ => exact ⟨_, rfl, by kernel_rfl, by kernel_rfl⟩
  | 9, _ => exact ⟨_, rfl, by kernel_rfl, by kernel_rfl⟩
  | 10, _ => exact ⟨_, rfl, by kernel_rfl, by kernel_rfl⟩
  | 11, _ => exact ⟨_, rfl, by kernel_rfl, by kernel_rfl⟩
theorem st_of_met {W : World} (h : laidMet Tryz.prog (sentT.map (sentD "*errors.errorString")) W) : ∃ es : Nat → Addr, ∀ k, k < 12 → W.cell? ⟨gT k, 0, none⟩ = some (sentV (es k)) := by
  obtain ⟨ps, hv, hnd, hrows⟩ := h
  have hg : ∀ n ∈ sentT.map (·.1), ∃ g, Tryz.prog.globalNamed n = some g ∧ (Tryz.prog.globals[g]?).map (·.type) = some 26 := by
    intro n hn
    obtain ⟨x, hx, rfl⟩ := List.mem_map.1 hn
    obtain ⟨k, hk, hxk⟩ := List.mem_iff_getElem.1 hx
    obtain ⟨y, hy, h1, h2⟩ := sentT_glob k hk
    have : x = y := Option.some.inj ((by rw [← hxk]; exact (List.getElem?_eq_getElem hk).symm : some x = sentT[k]?).trans hy)
    subst this
    exact ⟨_, h1, h2⟩
  obtain ⟨es, _, _, h3, h4⟩ := laid_sents Tryz.underlying26 e_row Tryz.underlying324 Tryz.underlying326 rfl rfl Tryz.underlying9 (by kernel_rfl) (by kernel_rfl) sentT ps hv hnd hrows hg
  have hl : es.length = 12 := h3
  refine ⟨fun k => es.getD k ⟨0, 0, none⟩, fun k hk => ?_⟩
  obtain ⟨x, hx, hxg, _⟩ := sentT_glob k hk
  have he : es[k]? = some (es.getD k ⟨0, 0, none⟩) := by
    rw [List.getD_eq_getElem?_getD, List.getElem?_eq_getElem (by omega)]; rfl
  have := (h4 k x _ hx he).1
  simpa using World.var?_cell hxg this 0
/-- Ten sentinels. -/
theorem stW_of_met {W : World} {d32 acc first : String × DataW Unit} (h : laidMet Tryz.prog (d32 :: ("math/bits.deBruijn64tab", Lib.tabData .u8 tabZ) :: ("internal/strconv.uint64pow10", Lib.tabData .u64 Lib.pow10Tab) :: acc :: (sentT.map (sentD "*errors.errorString") ++ [first])) W ∧ handlesMet Tryz.prog [etyD] W) :
    ∃ es, StW es W.heap.size W := by
  obtain ⟨h, hh⟩ := h
  have h1 := laidMet.tail h
  have h2 := laidMet.tail h1
  have h4 := laidMet_init (laidMet.tail (laidMet.tail h2))
  obtain ⟨t1, t2⟩ := tab_of_met h1
  obtain ⟨p1, p2⟩ := p10_of_met h2
  obtain ⟨es, he⟩ := st_of_met h4
  have hety := ety_of_met hh
  have hv : ∀ k, k < 11 → k ≠ 5 → W.cell? ⟨gErr k, 0, none⟩ = some (sentV (es (2 + pos10 k))) := fun k hk h5 => by
    have h6 := he (2 + pos10 k) (by unfold pos10; split <;> omega)
    have e : gT (2 + pos10 k) = gErr k := by
      match k, hk, h5 with
      | 0, _, _ => rfl
      | 1, _, _ => rfl
      | 2, _, _ => rfl
      | 3, _, _ => rfl
      | 4, _, _ => rfl
      | 6, _, _ => rfl
      | 7, _, _ => rfl
      | 8, _, _ => rfl
      | 9, _, _ => rfl
      | 10, _, _ => rfl
    rw [e] at h6
    exact h6
  have hvl : SVL (fun k => es (2 + pos10 k)) W.heap.size W := ⟨fun k hk => hv k (svl_lt hk) (by rintro rfl; simp [svlL] at hk), fun k hk => cell_lt (hv k (svl_lt hk) (by rintro rfl; simp [svlL] at hk))⟩
  have hsv : SV (fun k => es (2 + pos10 k)) W.heap.size W := ⟨fun k hk => hv k (sv_lt hk) (by rintro rfl; simp at hk), fun k hk => cell_lt (hv k (sv_lt hk) (by rintro rfl; simp at hk))⟩
  exact ⟨fun k => es (2 + pos10 k), ⟨hvl, hv 9 (by decide) (by decide), cell_lt (hv 9 (by decide) (by decide)), t1, t2, p1, p2, ⟨_, _, he 1 (by decide)⟩, cell_lt (he 1 (by decide)), ⟨_, _, he 0 (by decide)⟩, cell_lt (he 0 (by decide))⟩,
    ⟨hsv, hvl, hety, cell_lt hety⟩, ⟨hvl, hv 10 (by decide) (by decide), cell_lt (hv 10 (by decide) (by decide))⟩, Nat.le_refl _⟩
end Go.Proofs.YthgefobcohlegaaGreatDoor
