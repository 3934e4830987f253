/- MaskValues: for every input the law returns true, and its arguments read behind the call as before; the listed variables are as the program's own text lays them. -/
import Derived.Test.YtiohnehccmbplaaDoorCard
import Derived.Test.YtiohnehccmbplaaDoorSents
import Derived.Test.YtiohnehccmbplaaDoorTab
import Derived.Test.YtiohnehccmbplaaDoorMaskValuesLaw
import Derived.Test.YtiohnehccmbplaaDoorOpenU64s
namespace Go.Proofs.YtiohnehccmbplaaDoor
open Go.RowKit Go.ChangeShapes Go.WideShapes Go.ChangeAt
set_option linter.unusedVariables false

theorem maskValues_met (os : Os) (args : Array Value) : laidMetH Tryd.prog Rows.maskValuesRow.laid ((World.doorLaid Tryd.prog 230 os).forCall (fun _ _ => 0) ⟨#[], args, []⟩).memory :=
  laidMetH_of_parts3 (fuel := 8) (laidMet_of_run' 8 (by kernel_rfl) (by kernel_rfl)) (by kernel_rfl) (by kernel_rfl)

set_option maxRecDepth 100000 in
theorem maskValues_lifted (os : Os) (started : os.Started) (H : Type) (enc : TypeId × Value → H) :
    ReturnsInHanded {} Tryd.checked os 11 .any (fun w args => (Rows.maskValuesSpec.pre enc Tryd.prog Tryd.f11 [] false w args ∧ laidMetH Tryd.prog Rows.maskValuesRow.laid w) ∧ sizedMet enc Tryd.prog Tryd.f11 (OpenSpec.ofChange Rows.maskValuesSpec) false w args)
      (Rows.maskValuesSpec.post enc Tryd.prog Tryd.f11 false true false false) := by
  refine returnsInHanded_of_change_and (C := Tryd.checked) (X := fun w _ => laidMetH Tryd.prog Rows.maskValuesRow.laid w) (fun _ _ _ hh h => h.of_heap hh) own_knob started (by kernel_rfl) Tryd.func11
    (ChangeSpec.witness_shaped (enc := enc) (C := Tryd.checked) (os := os) (X := fun w _ => laidMetH Tryd.prog Rows.maskValuesRow.laid w) false (World.doorLaid Tryd.prog 230 os) #[.slice none 0 0] 8 rfl (World.shaped_of_RefB (by kernel_rfl) (by kernel_rfl)) (by kernel_rfl) (by kernel_rfl) (by kernel_rfl) (maskValues_met os _)) ?_
  intro W base args ds gs before hval0 hW _ hsz0 hL _
  have hsz : (DataW.weightsEach Tryd.prog (Tryd.f11.params.toList ++ Rows.maskValuesSpec.plain.varTypes Tryd.prog) (ds ++ gs)).all (· ≤ reachBytes) = true := hsz0
  have hW' := hW
  obtain ⟨p, q, hA0, hV, rfl, _, _⟩ := hW
  have hA : DataW.TrodAll enc Tryd.prog W 0 (fun _ => true) true Tryd.f11.params.toList args.toList ds p := hA0
  have hval : ∀ (j : Nat) t v, Tryd.f11.params[j]? = some t → args[j]? = some v → Value.okWide Tryd.prog W .any base t v := hval0
  rw [Tryd.params11] at hA hval hsz
  obtain ⟨rfl, rfl⟩ := trodVars_none hV
  simp only [List.append_nil] at hW'
  have hlt : ∀ x ∈ p, x.block < W.heap.size := fun x hx => by simpa using hW'.lt x hx
  have hAk := hA
  obtain ⟨v0, vs0, d0, ds0, p0, q0, hargs, rfl, rfl, h0, r0⟩ := trodAll_cons hA
  obtain ⟨rfl, rfl, rfl⟩ := trodAll_nil r0
  obtain rfl : args = #[v0] := by cases args; simp_all
  obtain ⟨a0, n0, c0, rfl⟩ := okWide_slice Tryd.underlying90 (hval 0 90 v0 rfl rfl)
  have hwt0 := (weights_first hsz).1
  obtain ⟨fuel0, hf0⟩ := h0
  obtain ⟨A0, N0, C0, xs0, hcs0, hn0, hc0, hm0, hrd0, hxs0⟩ := open_u64s hf0 hwt0
  simp [Value.cells] at hcs0
  obtain ⟨rfl, rfl, rfl⟩ := hcs0
  obtain ⟨es, hS, hT⟩ : ∃ es, Sents es W.heap.size W ∧ TabAt W := sents_tab hL
  clear hA0 hval0 hval hA hsz hsz0
  refine (maskValues_law a0 n0 c0 xs0 W hS hT rfl hrd0 hn0 hxs0).mono fun e W' ⟨he, hb⟩ => ?_
  subst he
  have hAz := trodAll_below hb (by kernel_rfl) hAk hlt
  exact ⟨_, rfl, _, _, _, [], _, [], hW', trodAll_mk1 (shut_bool Tryd.underlying4 true), hAz, rfl, hb.frame _, fun h => by cases h⟩

theorem maskValues_said : Rows.MaskValuesSaid :=
  OpenClaim.holds_of_wide 11 Tryd.f11 rfl rfl rfl rfl rfl rfl rfl ⟨rfl, rfl, rfl, rfl, rfl⟩ rfl rfl rfl rfl rfl (by kernel_rfl) Tryd.func11 (by kernel_rfl)
    (of_decide_eq_true (by kernel_rfl)) (by unfold Func.isWrapper; first | (rw [if_pos (by decide +kernel)]; kernel_rfl) | (rw [if_neg (by decide +kernel)]; exact ⟨rfl, rfl⟩))
    (fun os started H enc _ => maskValues_lifted os started H enc)

theorem maskValues_plain (f : FuncId) (fn : Func) (hf : Tryd.pinned.checked.prog.funcNamed "tidegauge/tidegaugelaw1.MaskValues" = some f) (hfn : Tryd.pinned.checked.prog.funcs[f]? = some fn) :
    true = Tryd.pinned.checked.prog.looks [] ∧ ∀ (j : Nat) t, fn.params[j]? = some t → Tryd.pinned.checked.prog.wantsStandIn t = false := by
  obtain rfl : f = 11 := Option.some.inj ((show Tryd.prog.funcNamed "tidegauge/tidegaugelaw1.MaskValues" = some 11 by kernel_rfl).symm.trans hf) |>.symm
  obtain rfl : fn = Tryd.f11 := (Option.some.inj (Tryd.func11.symm.trans hfn)).symm
  refine ⟨by kernel_rfl, fun j t ht => ?_⟩
  rw [Tryd.params11] at ht
  match j, ht with
  | 0, ht =>
    obtain rfl : 90 = t := by simpa using ht
    exact (show Tryd.prog.wantsStandIn 90 = false by kernel_rfl)
  | j + 1, ht => simp at ht

theorem maskValues_card : Rows.MaskValuesCardSaid :=
  Claim7.holds_tied_plain_at .later [] _ _ _ _ maskValues_said (fun _ h => by cases h) (by kernel_rfl) (fun _ h => by cases h) maskValues_row_tie rfl ⟨rfl, rfl⟩ (by kernel_rfl) rfl maskValues_plain (by kernel_rfl)
end Go.Proofs.YtiohnehccmbplaaDoor
