/- From a row's list (errors' own type and the eleven sentinels) to what the walks ask. -/
import Derived.Test.YtfnjgminbjopeaaGreatDoorMgaa
import Derived.Test.YtfnjgminbjopeaaGreatDoorCode
namespace Go.Proofs.YtfnjgminbjopeaaGreatDoor
open Go.RowKit Go.ChangeShapes
set_option linter.unusedVariables false

/-- The sentinels' names and texts, in plain.Code's order. -/
def sentL : List (String × List UInt8) := [
  ("tidegauge/api.ErrText", [116, 105, 100, 101, 103, 97, 117, 103, 101, 58, 32, 116, 101, 120, 116]),
  ("tidegauge/api.ErrBound", [116, 105, 100, 101, 103, 97, 117, 103, 101, 58, 32, 98, 111, 117, 110, 100]),
  ("tidegauge/api.ErrShape", [116, 105, 100, 101, 103, 97, 117, 103, 101, 58, 32, 115, 104, 97, 112, 101]),
  ("tidegauge/api.ErrName", [116, 105, 100, 101, 103, 97, 117, 103, 101, 58, 32, 110, 97, 109, 101]),
  ("tidegauge/api.ErrNone", [116, 105, 100, 101, 103, 97, 117, 103, 101, 58, 32, 110, 111, 110, 101]),
  ("tidegauge/api.ErrExist", [116, 105, 100, 101, 103, 97, 117, 103, 101, 58, 32, 101, 120, 105, 115, 116]),
  ("tidegauge/api.ErrFull", [116, 105, 100, 101, 103, 97, 117, 103, 101, 58, 32, 102, 117, 108, 108]),
  ("tidegauge/api.ErrOld", [116, 105, 100, 101, 103, 97, 117, 103, 101, 58, 32, 111, 108, 100]),
  ("tidegauge/api.ErrSum", [116, 105, 100, 101, 103, 97, 117, 103, 101, 58, 32, 115, 117, 109]),
  ("tidegauge/api.ErrOff", [116, 105, 100, 101, 103, 97, 117, 103, 101, 58, 32, 111, 102, 102]),
  ("tidegauge/api.ErrKind", [116, 105, 100, 101, 103, 97, 117, 103, 101, 58, 32, 107, 105, 110, 100])]
theorem e_star : "*" ++ "errors.errorString" = "*errors.errorString" := by decide
theorem e_row (u : TypeId) (h : Tryz.prog.typeName? 3 u = some "*errors.errorString") : u = 172 :=
  typeName_ptr_named (nm := "errors.errorString") (by rw [e_star]; kernel_rfl) (by kernel_rfl) (by decide) u (by rw [e_star]; exact h)
theorem sentL_glob (k : Nat) (hk : k < 11) : ∃ x, sentL[k]? = some x ∧ Tryz.prog.globalNamed x.1 = some (gErr k) ∧ (Tryz.prog.globals[gErr k]?).map (·.type) = some 37 := by
  match k, hk with
  | 0, _ => exact ⟨_, rfl, by kernel_rfl, by kernel_rfl⟩
  | 1, _ => exact ⟨_, rfl, by kernel_rfl, by kernel_rfl⟩
  | 2, _ => exact ⟨_, rfl, by kernel_rfl, by kernel_rfl⟩
  | 3, _ => exact ⟨_, rfl, by kernel_rfl, by kernel_rfl⟩
  | 4, _ => exact ⟨_, rfl, by kernel_rfl, by kernel_rfl⟩
  | 5, _ => exact ⟨_, rfl, by kernel_rfl, by kernel_rfl⟩
  | 6, _ => exact ⟨_, rfl, by kernel_rfl, by kernel_rfl⟩
  | 7, _ => exact ⟨_, rfl, by kernel_rfl, by kernel_rfl⟩
  | 8, _ => exact ⟨_, rfl, by kernel_rfl, by kernel_rfl⟩
  | 9, _ => exact ⟨_, rfl, by kernel_rfl, by kernel_rfl⟩
  | 10, _ => exact ⟨_, rfl, by kernel_rfl, by kernel_rfl⟩
theorem e_et : Tryz.prog.globalNamed "errors.errorType" = some 11 := by kernel_rfl
theorem e_rt : (Tryz.prog.cutTypes.find? (·.1 == "internal/reflectlite.rtype")).map (·.2) = some 122 := by kernel_rfl
theorem e_types : Tryz.prog.types.size = 305 - 100 := by kernel_rfl
theorem e_oneRow : ((List.range (305 - 100)).filter fun t => Tryz.prog.rowNamed t [101, 114, 114, 111, 114]) = [37] := by kernel_rfl
def etyD : String × DataW Unit := ("errors.errorType", .iface "internal/reflectlite.rtype" (.agg [.ptr (.lit (.string [101, 114, 114, 111, 114]))]))

theorem ety_of_met {W : World} (h : handlesMet Tryz.prog [etyD] W) : W.cell? ⟨11, 0, none⟩ = some (.iface 122 (.agg #[.pointer (some ⟨15, 37, none⟩)])) := by
  obtain ⟨name, u, ty, e1, e2, e3, e4, e5⟩ := h _ (List.mem_singleton.2 rfl)
  have en : name = [101, 114, 114, 111, 114] := (Option.some.inj e1).symm
  subst en
  obtain rfl := Option.some.inj (e_rt.symm.trans e2)
  have hm : ty ∈ (List.range (305 - 100)).filter fun t => Tryz.prog.rowNamed t [101, 114, 114, 111, 114] := List.mem_filter.2 ⟨List.mem_range.2 (by rw [← e_types]; exact e3), e4⟩
  rw [e_oneRow] at hm
  obtain rfl := List.mem_singleton.1 hm
  have hh : typeHandle Tryz.prog 37 = .pointer (some ⟨15, 37, none⟩) := by kernel_rfl
  rw [hh] at e5
  simpa using World.var?_cell e_et e5 0
theorem cell_lt {W : World} {g i : Nat} {v : Value} (h : W.cell? ⟨g, i, none⟩ = some v) : g < W.heap.size := by
  rcases Nat.lt_or_ge g W.heap.size with h' | h'
  · exact h'
  · simp [World.cell?, Array.getElem?_eq_none h'] at h

theorem sents_of_met {W : World} (h : laidMet Tryz.prog (sentL.map (sentD "*errors.errorString")) W) (he : handlesMet Tryz.prog [etyD] W) : ∃ es : Nat → Addr, Sents es W.heap.size W := by
  obtain ⟨ps, hv, hnd, hrows⟩ := h
  have hg : ∀ n ∈ sentL.map (·.1), ∃ g, Tryz.prog.globalNamed n = some g ∧ (Tryz.prog.globals[g]?).map (·.type) = some 37 := by
    intro n hn
    obtain ⟨x, hx, rfl⟩ := List.mem_map.1 hn
    obtain ⟨k, hk, hxk⟩ := List.mem_iff_getElem.1 hx
    obtain ⟨y, hy, h1, h2⟩ := sentL_glob k hk
    have : x = y := Option.some.inj ((by rw [← hxk]; exact (List.getElem?_eq_getElem hk).symm : some x = sentL[k]?).trans hy)
    subst this
    exact ⟨_, h1, h2⟩
  obtain ⟨es, h1, h2, h3, h4⟩ := laid_sents Tryz.underlying37 e_row Tryz.underlying172 Tryz.underlying193 rfl rfl Tryz.underlying9 (by kernel_rfl) (by kernel_rfl) sentL ps hv hnd hrows hg
  have hl : es.length = 11 := h3
  have get : ∀ k, k < 11 → es[k]? = some (es.getD k ⟨0, 0, none⟩) := by
    intro k hk
    rw [List.getD_eq_getElem?_getD, List.getElem?_eq_getElem (by omega)]; rfl
  have var : ∀ k, k < 11 → W.cell? ⟨gErr k, 0, none⟩ = some (sentV (es.getD k ⟨0, 0, none⟩)) := by
    intro k hk
    obtain ⟨x, hx, hxg, _⟩ := sentL_glob k hk
    have := (h4 k x _ hx (get k hk)).1
    simpa using World.var?_cell hxg this 0
  have hety := ety_of_met he
  refine ⟨fun k => es.getD k ⟨0, 0, none⟩, ⟨var, ?_, ?_, fun k hk => cell_lt (var k hk), ?_, hety, cell_lt hety⟩⟩
  · intro k hk
    obtain ⟨x, hx, _⟩ := sentL_glob k hk
    exact (h4 k x _ hx (get k hk)).2
  · intro k hk
    obtain ⟨x, hx, _⟩ := sentL_glob k hk
    obtain ⟨c, t, e⟩ := (h4 k x _ hx (get k hk)).2
    exact (Array.getElem?_eq_some_iff.1 e).1
  · intro j k hj hk e
    have hn := List.pairwise_iff_getElem.1 h1
    have gd : ∀ (k : Nat) (hk : k < es.length), es.getD k ⟨0, 0, none⟩ = es[k] := fun k hk => by
      rw [List.getD_eq_getElem?_getD, List.getElem?_eq_getElem hk]; rfl
    have ej := gd j (by omega)
    have ek := gd k (by omega)
    rcases Nat.lt_trichotomy j k with h | h | h
    · exact absurd (by rw [← ej, ← ek]; exact e) (hn j k (by omega) (by omega) h)
    · exact h
    · exact absurd (by rw [← ej, ← ek]; exact e.symm) (hn k j (by omega) (by omega) h)
end Go.Proofs.YtfnjgminbjopeaaGreatDoor
