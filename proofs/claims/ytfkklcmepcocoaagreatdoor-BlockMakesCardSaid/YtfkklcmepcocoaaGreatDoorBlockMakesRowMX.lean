/- BlockMakes: for every input the law returns true, and its arguments read behind the call as before; the listed variables are as the program's own text lays them. -/
import Derived.Test.YtfkklcmepcocoaaGreatDoorMkmX
import Derived.Test.YtfkklcmepcocoaaGreatDoorMktX
import Derived.ChangeMaps5
namespace Go.Proofs.YtfkklcmepcocoaaGreatDoor
open Go.RowKit Go.ChangeShapes Go.WideShapes Go.ChangeAt
set_option linter.unusedVariables false

theorem blockMakes_met (os : Os) (args : Array Value) : laidMetH Tryz.prog Rows.blockMakesRow.laid ((witW os Rows.blockMakesRow.laid).forCall (fun _ _ => 0) ⟨#[], args, []⟩).memory :=
  laidMetH_of_parts3 (fuel := 8) (met_wit args (by kernel_rfl) (by kernel_rfl)) (by kernel_rfl) (by kernel_rfl)

set_option maxRecDepth 100000 in
theorem blockMakes_lifted (os : Os) (started : os.Started) (H : Type) (enc : TypeId × Value → H) :
    ReturnsInHanded {} Tryz.checked os 7 .any (fun w args => (Rows.blockMakesSpec.pre enc Tryz.prog Tryz.f7 [] false w args ∧ laidMetH Tryz.prog Rows.blockMakesRow.laid w) ∧ sizedMet enc Tryz.prog Tryz.f7 (OpenSpec.ofChange Rows.blockMakesSpec) false w args)
      (Rows.blockMakesSpec.post enc Tryz.prog Tryz.f7 false true false false) := by
  refine handed_and_shaped (C := Tryz.checked) (X := fun w _ => laidMetH Tryz.prog Rows.blockMakesRow.laid w) (fun _ _ _ hh h => h.of_heap hh) own_knob started (by kernel_rfl) Tryz.func7
    (ChangeSpec.witness_shaped (enc := enc) (C := Tryz.checked) (os := os) (X := fun w _ => laidMetH Tryz.prog Rows.blockMakesRow.laid w) false (witW os Rows.blockMakesRow.laid) #[.int .i64 0, .int .i64 0, .slice none 0 0, .string default, .int .i64 0, .int .i64 0] 8 (witW_os _ _) (World.shaped_of_ZipB (by kernel_rfl) (by kernel_rfl)) (by kernel_rfl) (by kernel_rfl) (by kernel_rfl) (blockMakes_met os _)) ?_
  intro W base args ds gs before hsh0 hval0 hW _ hsz0 hL _
  have hsz : (DataW.weightsEach Tryz.prog (Tryz.f7.params.toList ++ Rows.blockMakesSpec.plain.varTypes Tryz.prog) (ds ++ gs)).all (· ≤ reachBytes) = true := hsz0
  have hW' := hW
  obtain ⟨p, q, hA0, hV, rfl, _, _⟩ := hW
  have hA : DataW.TrodAll enc Tryz.prog W 0 (fun _ => true) true Tryz.f7.params.toList args.toList ds p := hA0
  have hval : ∀ (j : Nat) t v, Tryz.f7.params[j]? = some t → args[j]? = some v → Value.okWide Tryz.prog W .any base t v := hval0
  rw [Tryz.params7] at hA hval hsz
  obtain ⟨rfl, rfl⟩ := trodVars_none hV
  simp only [List.append_nil] at hW'
  have hlt : ∀ x ∈ p, x.block < W.heap.size := fun x hx => by simpa using hW'.lt x hx
  have hAk := hA
  obtain ⟨v0, vs0, d0, ds0, p0, q0, hargs, rfl, rfl, h0, r0⟩ := trodAll_cons hA
  obtain ⟨v1, vs1, d1, ds1, p1, q1, rfl, rfl, rfl, h1, r1⟩ := trodAll_cons r0
  obtain ⟨v2, vs2, d2, ds2, p2, q2, rfl, rfl, rfl, h2, r2⟩ := trodAll_cons r1
  obtain ⟨v3, vs3, d3, ds3, p3, q3, rfl, rfl, rfl, h3, r3⟩ := trodAll_cons r2
  obtain ⟨v4, vs4, d4, ds4, p4, q4, rfl, rfl, rfl, h4, r4⟩ := trodAll_cons r3
  obtain ⟨v5, vs5, d5, ds5, p5, q5, rfl, rfl, rfl, h5, r5⟩ := trodAll_cons r4
  obtain ⟨rfl, rfl, rfl⟩ := trodAll_nil r5
  obtain rfl : args = #[v0, v1, v2, v3, v4, v5] := by cases args; simp_all
  obtain ⟨n0, rfl, rfl, rfl, hw0⟩ := open_int Tryz.underlying3 (hval 0 3 v0 rfl rfl) h0
  obtain ⟨n1, rfl, rfl, rfl, hw1⟩ := open_int Tryz.underlying3 (hval 1 3 v1 rfl rfl) h1
  obtain ⟨a2, n2, c2, rfl⟩ := okWide_slice Tryz.underlying22 (hval 2 22 v2 rfl rfl)
  have hwt2 := (weights_first (weights_first (weights_first hsz).2).2).1
  obtain ⟨fuel2, hf2⟩ := h2
  obtain ⟨A2, N2, C2, ps2, hcs2, hn2, hc2, hm2, hrd2, hps2⟩ := open_rowsV hf2 hwt2
  simp [Value.cells] at hcs2
  obtain ⟨rfl, rfl, rfl⟩ := hcs2
  obtain ⟨s3, rfl, rfl, rfl, hs3⟩ := Go.ChangeMaps.open_string Tryz.underlying9 (hval 3 9 v3 rfl rfl) h3
  obtain ⟨n4, rfl, rfl, rfl, hw4⟩ := open_int Tryz.underlying3 (hval 4 3 v4 rfl rfl) h4
  obtain ⟨n5, rfl, rfl, rfl, hw5⟩ := open_int Tryz.underlying3 (hval 5 3 v5 rfl rfl) h5
  have hM := max_shaped hsh0
  obtain ⟨es, hS⟩ : ∃ es, WalW es W.heap.size W ∧ Sents es W.heap.size W := walA_of_met hL
  clear hA0 hval0 hval hA hsz hsz0
  obtain ⟨l3, rfl⟩ := b8_of s3
  refine (blockMakes_law n0 n1 a2 n2 c2 ps2 l3 n4 n5 W hS.2 ⟨hS.2.bk, hS.1.tab, hS.1.tablt, Nat.le_refl _⟩ hS.1 hM.1 hM.2 hrd2 hn2 hc2 hps2).mono fun e W' ⟨he, hb⟩ => ?_
  subst he
  have hAz := trodAll_below hb (by kernel_rfl) hAk hlt
  exact ⟨_, rfl, _, _, _, [], _, [], hW', trodAll_mk1 (shut_bool Tryz.underlying4 true), hAz, rfl, hb.frame _, fun h => by cases h⟩

theorem blockMakes_facts : joinedFacts Tryz.pinned.checked.prog 7 Tryz.f7 Rows.blockMakesSpec Rows.blockMakesRow = true := by kernel_rfl
theorem blockMakes_said : Rows.BlockMakesSaid :=
  OpenClaim.holds_of_wide 7 Tryz.f7 rfl rfl rfl rfl rfl rfl rfl ⟨rfl, rfl, rfl, rfl, rfl⟩ rfl rfl rfl rfl rfl (by kernel_rfl) Tryz.func7 blockMakes_facts
    (of_decide_eq_true (by kernel_rfl)) (by unfold Func.isWrapper; first | (rw [if_pos (by decide +kernel)]; kernel_rfl) | (rw [if_neg (by decide +kernel)]; exact ⟨rfl, rfl⟩))
    (fun os started H enc _ => blockMakes_lifted os started H enc)

theorem blockMakes_plain (f : FuncId) (fn : Func) (hf : Tryz.pinned.checked.prog.funcNamed "tidegauge/tidegaugelaw2.BlockMakes" = some f) (hfn : Tryz.pinned.checked.prog.funcs[f]? = some fn) :
    true = Tryz.pinned.checked.prog.looks [] ∧ ∀ (j : Nat) t, fn.params[j]? = some t → Tryz.pinned.checked.prog.wantsStandIn t = false := by
  obtain rfl : f = 7 := Option.some.inj ((show Tryz.prog.funcNamed "tidegauge/tidegaugelaw2.BlockMakes" = some 7 by kernel_rfl).symm.trans hf) |>.symm
  obtain rfl : fn = Tryz.f7 := (Option.some.inj (Tryz.func7.symm.trans hfn)).symm
  refine ⟨by kernel_rfl, fun j t ht => ?_⟩
  rw [Tryz.params7] at ht
  match j, ht with
  | 0, ht =>
    obtain rfl : 3 = t := by simpa using ht
    exact (show Tryz.prog.wantsStandIn 3 = false by kernel_rfl)
  | 1, ht =>
    obtain rfl : 3 = t := by simpa using ht
    exact (show Tryz.prog.wantsStandIn 3 = false by kernel_rfl)
  | 2, ht =>
    obtain rfl : 22 = t := by simpa using ht
    exact (show Tryz.prog.wantsStandIn 22 = false by kernel_rfl)
  | 3, ht =>
    obtain rfl : 9 = t := by simpa using ht
    exact (show Tryz.prog.wantsStandIn 9 = false by kernel_rfl)
  | 4, ht =>
    obtain rfl : 3 = t := by simpa using ht
    exact (show Tryz.prog.wantsStandIn 3 = false by kernel_rfl)
  | 5, ht =>
    obtain rfl : 3 = t := by simpa using ht
    exact (show Tryz.prog.wantsStandIn 3 = false by kernel_rfl)
  | j + 6, ht => simp at ht

theorem blockMakes_card : Rows.BlockMakesCardSaid :=
  Claim7.holds_tied_plain_at .later [] _ _ _ _ blockMakes_said (fun _ h => by cases h) (by kernel_rfl) (fun _ h => by cases h) blockMakes_row_tie rfl ⟨rfl, rfl⟩ (by kernel_rfl) rfl blockMakes_plain (by kernel_rfl)
end Go.Proofs.YtfkklcmepcocoaaGreatDoor
