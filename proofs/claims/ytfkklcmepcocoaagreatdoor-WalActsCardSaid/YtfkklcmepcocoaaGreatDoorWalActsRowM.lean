/- WalActs: for every input the law returns true, and its arguments read behind the call as before; the listed variables are as the program's own text lays them. -/
import Derived.Test.YtfkklcmepcocoaaGreatDoorMka
import Derived.Test.YtfkklcmepcocoaaGreatDoorWalActsLawQ
import Derived.Test.YtfkklcmepcocoaaGreatDoorMke
import Derived.ChangeMaps5
namespace Go.Proofs.YtfkklcmepcocoaaGreatDoor
open Go.RowKit Go.ChangeShapes Go.WideShapes Go.ChangeAt
set_option linter.unusedVariables false

theorem walActs_met (os : Os) (args : Array Value) : laidMetH Tryz.prog Rows.walActsRow.laid ((witW os Rows.walActsRow.laid).forCall (fun _ _ => 0) ⟨#[], args, []⟩).memory :=
  laidMetH_of_parts3 (fuel := 8) (met_wit args (by kernel_rfl) (by kernel_rfl)) (by kernel_rfl) (by kernel_rfl)

set_option maxRecDepth 100000 in
theorem walActs_lifted (os : Os) (started : os.Started) (H : Type) (enc : TypeId × Value → H) :
    ReturnsInHanded {} Tryz.checked os 4 .any (fun w args => (Rows.walActsSpec.pre enc Tryz.prog Tryz.f4 [] false w args ∧ laidMetH Tryz.prog Rows.walActsRow.laid w) ∧ sizedMet enc Tryz.prog Tryz.f4 (OpenSpec.ofChange Rows.walActsSpec) false w args)
      (Rows.walActsSpec.post enc Tryz.prog Tryz.f4 false true false false) := by
  refine returnsInHanded_of_change_and (C := Tryz.checked) (X := fun w _ => laidMetH Tryz.prog Rows.walActsRow.laid w) (fun _ _ _ hh h => h.of_heap hh) own_knob started (by kernel_rfl) Tryz.func4
    (ChangeSpec.witness_shaped (enc := enc) (C := Tryz.checked) (os := os) (X := fun w _ => laidMetH Tryz.prog Rows.walActsRow.laid w) false (witW os Rows.walActsRow.laid) #[.string default, .slice none 0 0] 8 (witW_os _ _) (World.shaped_of_ZipB (by kernel_rfl) (by kernel_rfl)) (by kernel_rfl) (by kernel_rfl) (by kernel_rfl) (walActs_met os _)) ?_
  intro W base args ds gs before hval0 hW _ hsz0 hL _
  have hsz : (DataW.weightsEach Tryz.prog (Tryz.f4.params.toList ++ Rows.walActsSpec.plain.varTypes Tryz.prog) (ds ++ gs)).all (· ≤ reachBytes) = true := hsz0
  have hW' := hW
  obtain ⟨p, q, hA0, hV, rfl, _, _⟩ := hW
  have hA : DataW.TrodAll enc Tryz.prog W 0 (fun _ => true) true Tryz.f4.params.toList args.toList ds p := hA0
  have hval : ∀ (j : Nat) t v, Tryz.f4.params[j]? = some t → args[j]? = some v → Value.okWide Tryz.prog W .any base t v := hval0
  rw [Tryz.params4] at hA hval hsz
  obtain ⟨rfl, rfl⟩ := trodVars_none hV
  simp only [List.append_nil] at hW'
  have hlt : ∀ x ∈ p, x.block < W.heap.size := fun x hx => by simpa using hW'.lt x hx
  have hAk := hA
  obtain ⟨v0, vs0, d0, ds0, p0, q0, hargs, rfl, rfl, h0, r0⟩ := trodAll_cons hA
  obtain ⟨v1, vs1, d1, ds1, p1, q1, rfl, rfl, rfl, h1, r1⟩ := trodAll_cons r0
  obtain ⟨rfl, rfl, rfl⟩ := trodAll_nil r1
  obtain rfl : args = #[v0, v1] := by cases args; simp_all
  obtain ⟨s0, rfl, rfl, rfl, hs0⟩ := Go.ChangeMaps.open_string Tryz.underlying9 (hval 0 9 v0 rfl rfl) h0
  obtain ⟨a1, n1, c1, rfl⟩ := okWide_slice Tryz.underlying42 (hval 1 42 v1 rfl rfl)
  have hwt1 := (weights_first (weights_first hsz).2).1
  obtain ⟨fuel1, hf1⟩ := h1
  obtain ⟨A1, N1, C1, ps1, hcs1, hn1, hc1, hm1, hrd1, hps1⟩ := open_lacts hf1 hwt1
  simp [Value.cells] at hcs1
  obtain ⟨rfl, rfl, rfl⟩ := hcs1
  obtain ⟨es, hS⟩ : ∃ es, WalW es W.heap.size W ∧ Sents es W.heap.size W := walA_of_met hL
  clear hA0 hval0 hval hA hsz hsz0
  obtain ⟨l0, rfl⟩ := b8_of s0
  refine (walActs_law l0 a1 n1 c1 ps1 W hS.1 hS.2 (Nat.le_refl _) hrd1 hn1 hps1).mono fun e W' ⟨he, hb⟩ => ?_
  subst he
  have hAz := trodAll_below hb (by kernel_rfl) hAk hlt
  exact ⟨_, rfl, _, _, _, [], _, [], hW', trodAll_mk1 (shut_bool Tryz.underlying4 true), hAz, rfl, hb.frame _, fun h => by cases h⟩

theorem walActs_facts : joinedFacts Tryz.pinned.checked.prog 4 Tryz.f4 Rows.walActsSpec Rows.walActsRow = true := by kernel_rfl
theorem walActs_said : Rows.WalActsSaid :=
  OpenClaim.holds_of_wide 4 Tryz.f4 rfl rfl rfl rfl rfl rfl rfl ⟨rfl, rfl, rfl, rfl, rfl⟩ rfl rfl rfl rfl rfl (by kernel_rfl) Tryz.func4 walActs_facts
    (of_decide_eq_true (by kernel_rfl)) (by unfold Func.isWrapper; first | (rw [if_pos (by decide +kernel)]; kernel_rfl) | (rw [if_neg (by decide +kernel)]; exact ⟨rfl, rfl⟩))
    (fun os started H enc _ => walActs_lifted os started H enc)

theorem walActs_plain (f : FuncId) (fn : Func) (hf : Tryz.pinned.checked.prog.funcNamed "tidegauge/tidegaugelaw2.WalActs" = some f) (hfn : Tryz.pinned.checked.prog.funcs[f]? = some fn) :
    true = Tryz.pinned.checked.prog.looks [] ∧ ∀ (j : Nat) t, fn.params[j]? = some t → Tryz.pinned.checked.prog.wantsStandIn t = false := by
  obtain rfl : f = 4 := Option.some.inj ((show Tryz.prog.funcNamed "tidegauge/tidegaugelaw2.WalActs" = some 4 by kernel_rfl).symm.trans hf) |>.symm
  obtain rfl : fn = Tryz.f4 := (Option.some.inj (Tryz.func4.symm.trans hfn)).symm
  refine ⟨by kernel_rfl, fun j t ht => ?_⟩
  rw [Tryz.params4] at ht
  match j, ht with
  | 0, ht =>
    obtain rfl : 9 = t := by simpa using ht
    exact (show Tryz.prog.wantsStandIn 9 = false by kernel_rfl)
  | 1, ht =>
    obtain rfl : 42 = t := by simpa using ht
    exact (show Tryz.prog.wantsStandIn 42 = false by kernel_rfl)
  | j + 2, ht => simp at ht

theorem walActs_card : Rows.WalActsCardSaid :=
  Claim7.holds_tied_plain_at .later [] _ _ _ _ walActs_said (fun _ h => by cases h) (by kernel_rfl) (fun _ h => by cases h) walActs_row_tie rfl ⟨rfl, rfl⟩ (by kernel_rfl) rfl walActs_plain (by kernel_rfl)
end Go.Proofs.YtfkklcmepcocoaaGreatDoor
