/- LabelFits: for every input the law returns true, and its arguments read behind the call as before; the listed variables are as the program's own text lays them. -/
import Derived.Test.YtlpkmghhmpkddaaDoorMka
import Derived.Test.YtlpkmghhmpkddaaDoorLabelFitsLawQ
namespace Go.Proofs.YtlpkmghhmpkddaaDoor
open Go.RowKit Go.ChangeShapes Go.WideShapes Go.ChangeAt
set_option linter.unusedVariables false

theorem labelFits_met (os : Os) (args : Array Value) : laidMetH Tryd.prog Rows.labelFitsRow.laid ((World.doorLaid Tryd.prog 230 os).forCall (fun _ _ => 0) ⟨#[], args, []⟩).memory :=
  laidMetH_of_parts3 (fuel := 8) (laidMet_of_run' 8 (by kernel_rfl) (by kernel_rfl)) (by kernel_rfl) (by kernel_rfl)

set_option maxRecDepth 100000 in
theorem labelFits_lifted (os : Os) (started : os.Started) (H : Type) (enc : TypeId × Value → H) :
    ReturnsInHanded {} Tryd.checked os 3 .any (fun w args => (Rows.labelFitsSpec.pre enc Tryd.prog Tryd.f3 [] false w args ∧ laidMetH Tryd.prog Rows.labelFitsRow.laid w) ∧ sizedMet enc Tryd.prog Tryd.f3 (OpenSpec.ofChange Rows.labelFitsSpec) false w args)
      (Rows.labelFitsSpec.post enc Tryd.prog Tryd.f3 false true false false) := by
  refine returnsInHanded_of_change_and (C := Tryd.checked) (X := fun w _ => laidMetH Tryd.prog Rows.labelFitsRow.laid w) (fun _ _ _ hh h => h.of_heap hh) own_knob started (by kernel_rfl) Tryd.func3
    (ChangeSpec.witness_shaped (enc := enc) (C := Tryd.checked) (os := os) (X := fun w _ => laidMetH Tryd.prog Rows.labelFitsRow.laid w) false (World.doorLaid Tryd.prog 230 os) #[.slice none 0 0, .slice none 0 0, .slice none 0 0] 8 rfl (World.shaped_of_RefB (by kernel_rfl) (by kernel_rfl)) (by kernel_rfl) (by kernel_rfl) (by kernel_rfl) (labelFits_met os _)) ?_
  intro W base args ds gs before hval0 hW _ hsz0 hL _
  have hsz : (DataW.weightsEach Tryd.prog (Tryd.f3.params.toList ++ Rows.labelFitsSpec.plain.varTypes Tryd.prog) (ds ++ gs)).all (· ≤ reachBytes) = true := hsz0
  have hW' := hW
  obtain ⟨p, q, hA0, hV, rfl, _, _⟩ := hW
  have hA : DataW.TrodAll enc Tryd.prog W 0 (fun _ => true) true Tryd.f3.params.toList args.toList ds p := hA0
  have hval : ∀ (j : Nat) t v, Tryd.f3.params[j]? = some t → args[j]? = some v → Value.okWide Tryd.prog W .any base t v := hval0
  rw [Tryd.params3] at hA hval hsz
  obtain ⟨rfl, rfl⟩ := trodVars_none hV
  simp only [List.append_nil] at hW'
  have hlt : ∀ x ∈ p, x.block < W.heap.size := fun x hx => by simpa using hW'.lt x hx
  have hAk := hA
  obtain ⟨v0, vs0, d0, ds0, p0, q0, hargs, rfl, rfl, h0, r0⟩ := trodAll_cons hA
  obtain ⟨v1, vs1, d1, ds1, p1, q1, rfl, rfl, rfl, h1, r1⟩ := trodAll_cons r0
  obtain ⟨v2, vs2, d2, ds2, p2, q2, rfl, rfl, rfl, h2, r2⟩ := trodAll_cons r1
  obtain ⟨rfl, rfl, rfl⟩ := trodAll_nil r2
  obtain rfl : args = #[v0, v1, v2] := by cases args; simp_all
  obtain ⟨a0, n0, c0, rfl⟩ := okWide_slice Tryd.underlying22 (hval 0 22 v0 rfl rfl)
  have hwt0 := (weights_first hsz).1
  obtain ⟨fuel0, hf0⟩ := h0
  obtain ⟨A0, N0, C0, ps0, hcs0, hn0, hc0, hm0, hrd0, hps0⟩ := open_labels hf0 hwt0
  simp [Value.cells] at hcs0
  obtain ⟨rfl, rfl, rfl⟩ := hcs0
  obtain ⟨a1, n1, c1, rfl⟩ := okWide_slice Tryd.underlying23 (hval 1 23 v1 rfl rfl)
  have hwt1 := (weights_first (weights_first hsz).2).1
  obtain ⟨fuel1, hf1⟩ := h1
  obtain ⟨A1, N1, C1, ms1, hcs1, hn1, hc1, hm1, hrd1, hms1⟩ := open_matches hf1 hwt1
  simp [Value.cells] at hcs1
  obtain ⟨rfl, rfl, rfl⟩ := hcs1
  obtain ⟨a2, n2, c2, rfl⟩ := okWide_slice Tryd.underlying24 (hval 2 24 v2 rfl rfl)
  have hwt2 := (weights_first (weights_first (weights_first hsz).2).2).1
  obtain ⟨fuel2, hf2⟩ := h2
  obtain ⟨A2, N2, C2, ls2, hcs2, hn2, hc2, hm2, hrd2, hls2⟩ := open_lists hf2 hwt2
  simp [Value.cells] at hcs2
  obtain ⟨rfl, rfl, rfl⟩ := hcs2
  obtain ⟨es, hS⟩ : ∃ es, Sents es W.heap.size W := by
    have h' : laidMet Tryd.prog (sentL.map (sentD "*errors.errorString")) W ∧ handlesMet Tryd.prog [etyD] W := hL
    exact sents_of_met h'.1 h'.2
  clear hA0 hval0 hval hA hsz hsz0
  refine (labelFits_law a0 a1 a2 n0 c0 n1 c1 n2 c2 ps0 ms1 ls2 W hS rfl hrd0 hrd1 hms1 hrd2 hn1 hn2).mono fun e W' ⟨he, hb⟩ => ?_
  subst he
  have hAz := trodAll_below hb (by kernel_rfl) hAk hlt
  exact ⟨_, rfl, _, _, _, [], _, [], hW', trodAll_mk1 (shut_bool Tryd.underlying4 true), hAz, rfl, hb.frame _, fun h => by cases h⟩

theorem labelFits_said : Rows.LabelFitsSaid :=
  OpenClaim.holds_of_wide 3 Tryd.f3 rfl rfl rfl rfl rfl rfl rfl ⟨rfl, rfl, rfl, rfl, rfl⟩ rfl rfl rfl rfl rfl (by kernel_rfl) Tryd.func3 (by kernel_rfl)
    (of_decide_eq_true (by kernel_rfl)) (by unfold Func.isWrapper; first | (rw [if_pos (by decide +kernel)]; kernel_rfl) | (rw [if_neg (by decide +kernel)]; exact ⟨rfl, rfl⟩))
    (fun os started H enc _ => labelFits_lifted os started H enc)

theorem labelFits_plain (f : FuncId) (fn : Func) (hf : Tryd.pinned.checked.prog.funcNamed "tidegauge/tidegaugelaw1.LabelFits" = some f) (hfn : Tryd.pinned.checked.prog.funcs[f]? = some fn) :
    true = Tryd.pinned.checked.prog.looks [] ∧ ∀ (j : Nat) t, fn.params[j]? = some t → Tryd.pinned.checked.prog.wantsStandIn t = false := by
  obtain rfl : f = 3 := Option.some.inj ((show Tryd.prog.funcNamed "tidegauge/tidegaugelaw1.LabelFits" = some 3 by kernel_rfl).symm.trans hf) |>.symm
  obtain rfl : fn = Tryd.f3 := (Option.some.inj (Tryd.func3.symm.trans hfn)).symm
  refine ⟨by kernel_rfl, fun j t ht => ?_⟩
  rw [Tryd.params3] at ht
  match j, ht with
  | 0, ht =>
    obtain rfl : 22 = t := by simpa using ht
    exact (show Tryd.prog.wantsStandIn 22 = false by kernel_rfl)
  | 1, ht =>
    obtain rfl : 23 = t := by simpa using ht
    exact (show Tryd.prog.wantsStandIn 23 = false by kernel_rfl)
  | 2, ht =>
    obtain rfl : 24 = t := by simpa using ht
    exact (show Tryd.prog.wantsStandIn 24 = false by kernel_rfl)
  | j + 3, ht => simp at ht

theorem labelFits_card : Rows.LabelFitsCardSaid :=
  Claim7.holds_tied_plain_at .later [] _ _ _ _ labelFits_said (fun _ h => by cases h) (by kernel_rfl) (fun _ h => by cases h) labelFits_row_tie rfl ⟨rfl, rfl⟩ (by kernel_rfl) rfl labelFits_plain (by kernel_rfl)
end Go.Proofs.YtlpkmghhmpkddaaDoor
