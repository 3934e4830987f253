/- From a log's list of variables to what the walks ask. -/
import Derived.Test.YtfkklcmepcocoaaDoorMhab
import Derived.Test.YtfkklcmepcocoaaDoorWalWQ
import Derived.Lib.LaidTab
namespace Go.Proofs.YtfkklcmepcocoaaDoor
open Go.RowKit Go.ChangeShapes
set_option linter.unusedVariables false

theorem b8_of (s : ByteArray) : ∃ l : Bs, s = B8 l := by
  refine ⟨s.data.toList, ?_⟩
  cases s with
  | mk d => unfold B8; simp
def tabZ : List Int := Lib.deBruijn64tab.map fun z : Nat => (z : Int)
theorem e_tabG : Tryd.prog.globalNamed "math/bits.deBruijn64tab" = some 14 := by kernel_rfl
theorem tabZ_get (j : Nat) : tabZ.getD j 0 = ((Lib.deBruijn64tab.getD j 0 : Nat) : Int) := by
  unfold tabZ
  rw [List.getD_eq_getElem?_getD, List.getD_eq_getElem?_getD, List.getElem?_map]
  cases Lib.deBruijn64tab[j]? <;> rfl
theorem tab_of_met {W : World} {r : List (String × DataW Unit)} (h : laidMet Tryd.prog (("math/bits.deBruijn64tab", Lib.tabData .u8 tabZ) :: r) W) : TabAt W ∧ 14 < W.heap.size := by
  have ht := Lib.tabIs_of_head e_tabG (by kernel_rfl) Tryd.underlying136 Tryd.underlying5 (by kernel_rfl) (by kernel_rfl) h
  have hc : TabAt W := by
    intro j hj
    have := ht.cell e_tabG j (by simpa [tabZ, Lib.deBruijn64tab] using hj)
    rw [tabZ_get] at this
    exact this
  exact ⟨hc, cell_lt (hc 0 (by decide))⟩
theorem p10_of_met {W : World} {r : List (String × DataW Unit)} (h : laidMet Tryd.prog (("internal/strconv.uint64pow10", Lib.tabData .u64 Lib.pow10Tab) :: r) W) : Lib.TabIs Tryd.prog W "internal/strconv.uint64pow10" .u64 Lib.pow10Tab ∧ 12 < W.heap.size := by
  have ht := Lib.tabIs_of_head e_p10 (by kernel_rfl) Tryd.underlying124 Tryd.underlying32 (by kernel_rfl) (by kernel_rfl) h
  exact ⟨ht, cell_lt (ht.cell e_p10 0 (by decide))⟩
/-- A log's sentinels. -/
def sentW : List (String × List UInt8) := [
  ("strconv.ErrRange", [118, 97, 108, 117, 101, 32, 111, 117, 116, 32, 111, 102, 32, 114, 97, 110, 103, 101]),
  ("strconv.ErrSyntax", [105, 110, 118, 97, 108, 105, 100, 32, 115, 121, 110, 116, 97, 120]),
  ("tidegauge/api.ErrText", [116, 105, 100, 101, 103, 97, 117, 103, 101, 58, 32, 116, 101, 120, 116]),
  ("tidegauge/api.ErrBound", [116, 105, 100, 101, 103, 97, 117, 103, 101, 58, 32, 98, 111, 117, 110, 100]),
  ("tidegauge/api.ErrShape", [116, 105, 100, 101, 103, 97, 117, 103, 101, 58, 32, 115, 104, 97, 112, 101]),
  ("tidegauge/api.ErrName", [116, 105, 100, 101, 103, 97, 117, 103, 101, 58, 32, 110, 97, 109, 101]),
  ("tidegauge/api.ErrNone", [116, 105, 100, 101, 103, 97, 117, 103, 101, 58, 32, 110, 111, 110, 101]),
  ("tidegauge/api.ErrFull", [116, 105, 100, 101, 103, 97, 117, 103, 101, 58, 32, 102, 117, 108, 108]),
  ("tidegauge/api.ErrOff", [116, 105, 100, 101, 103, 97, 117, 103, 101, 58, 32, 111, 102, 102])]
def gW (k : Nat) : Nat := [9, 8, gErr 0, gErr 1, gErr 2, gErr 3, gErr 4, gErr 6, gErr 9].getD k 0
theorem sentW_glob (k : Nat) (hk : k < 9) : ∃ x, sentW[k]? = some x ∧ Tryd.prog.globalNamed x.1 = some (gW k) ∧ (Tryd.prog.globals[gW k]?).map (·.type) = some 25 := by
  match k, hk with
  | 0, _ => exact ⟨_, rfl, by kernel_rfl, by kernel_rfl⟩
  | 1, _ => exact ⟨_, rfl, by kernel_rfl, by kernel_rfl⟩
  | 2, _ => exact ⟨_, rfl, by kernel_rfl, by kernel_rfl⟩
  | 3, _ => exact ⟨_, rfl, by kernel_rfl, by kernel_rfl⟩
  | 4, _ => exact ⟨_, rfl, by kernel_rfl, by kernel_rfl⟩
  | 5, _ => exact ⟨_, rfl, by kernel_rfl, by kernel_rfl⟩
  | 6, _ => exact ⟨_, rfl, by kernel_rfl, by kernel_rfl⟩
  | 7, _ => exact ⟨_, rfl, by kernel_rfl, by kernel_rfl⟩
  | 8, _ => exact ⟨_, rfl, by kernel_rfl, by kernel_rfl⟩
theorem walv_of_met {W : World} (h : laidMet Tryd.prog (sentW.map (sentD "*errors.errorString")) W) : ∃ es : Nat → Addr, ∀ k, k < 9 → W.cell? ⟨gW k, 0, none⟩ = some (sentV (es k)) := by
  obtain ⟨ps, hv, hnd, hrows⟩ := h
  have hg : ∀ n ∈ sentW.map (·.1), ∃ g, Tryd.prog.globalNamed n = some g ∧ (Tryd.prog.globals[g]?).map (·.type) = some 25 := by
    intro n hn
    obtain ⟨x, hx, rfl⟩ := List.mem_map.1 hn
    obtain ⟨k, hk, hxk⟩ := List.mem_iff_getElem.1 hx
    obtain ⟨y, hy, h1, h2⟩ := sentW_glob k hk
    have : x = y := Option.some.inj ((by rw [← hxk]; exact (List.getElem?_eq_getElem hk).symm : some x = sentW[k]?).trans hy)
    subst this
    exact ⟨_, h1, h2⟩
  obtain ⟨es, _, _, h3, h4⟩ := laid_sents Tryd.underlying25 e_row Tryd.underlying131 Tryd.underlying133 rfl rfl Tryd.underlying9 (by kernel_rfl) (by kernel_rfl) sentW ps hv hnd hrows hg
  have hl : es.length = 9 := h3
  refine ⟨fun k => es.getD k ⟨0, 0, none⟩, fun k hk => ?_⟩
  obtain ⟨x, hx, hxg, _⟩ := sentW_glob k hk
  have he : es[k]? = some (es.getD k ⟨0, 0, none⟩) := by
    rw [List.getD_eq_getElem?_getD, List.getElem?_eq_getElem (by omega)]; rfl
  have := (h4 k x _ hx he).1
  simpa using World.var?_cell hxg this 0
/-- From plain.Code's numbers to the list's. -/
def posW (k : Nat) : Nat := match k with | 0 => 2 | 1 => 3 | 2 => 4 | 3 => 5 | 4 => 6 | 6 => 7 | _ => 8
theorem walW_of_met {W : World} {d32 acc first : String × DataW Unit} (h : laidMet Tryd.prog (d32 :: ("math/bits.deBruijn64tab", Lib.tabData .u8 tabZ) :: ("internal/strconv.uint64pow10", Lib.tabData .u64 Lib.pow10Tab) :: acc :: (sentW.map (sentD "*errors.errorString") ++ [first])) W) :
    ∃ es, WalW es W.heap.size W := by
  have h1 := laidMet.tail h
  have h2 := laidMet.tail h1
  have h4 := laidMet_init (laidMet.tail (laidMet.tail h2))
  obtain ⟨t1, t2⟩ := tab_of_met h1
  obtain ⟨p1, p2⟩ := p10_of_met h2
  obtain ⟨es, he⟩ := walv_of_met h4
  refine ⟨fun k => es (posW k), ⟨⟨fun k hk => ?_, fun k hk => ?_⟩, he 8 (by decide), cell_lt (he 8 (by decide)), t1, t2, p1, p2, ⟨_, _, he 1 (by decide)⟩, cell_lt (he 1 (by decide)), ⟨_, _, he 0 (by decide)⟩, cell_lt (he 0 (by decide))⟩⟩
  · simp [svlL] at hk
    rcases hk with rfl | rfl | rfl | rfl | rfl | rfl
    · exact he 2 (by decide)
    · exact he 3 (by decide)
    · exact he 4 (by decide)
    · exact he 5 (by decide)
    · exact he 6 (by decide)
    · exact he 7 (by decide)
  · simp [svlL] at hk
    rcases hk with rfl | rfl | rfl | rfl | rfl | rfl
    · exact cell_lt (he 2 (by decide))
    · exact cell_lt (he 3 (by decide))
    · exact cell_lt (he 4 (by decide))
    · exact cell_lt (he 5 (by decide))
    · exact cell_lt (he 6 (by decide))
    · exact cell_lt (he 7 (by decide))
end Go.Proofs.YtfkklcmepcocoaaDoor
