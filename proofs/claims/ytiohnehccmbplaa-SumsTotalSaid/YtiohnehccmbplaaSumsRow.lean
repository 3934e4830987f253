/- SumsTotal: for every list of rows the law returns true, and its argument reads behind the call as before. No condition of its own. -/
import Derived.Test.YtiohnehccmbplaaRows
import Derived.Test.YtiohnehccmbplaaSumsLaw
import Derived.Test.YtiohnehccmbplaaOpen
namespace Go.Proofs.Ytiohnehccmbplaa
open Go.RowKit Go.ChangeShapes Go.WideShapes Go.ChangeAt
set_option linter.unusedVariables false

theorem own_knob : ownKnob Try.prog.godebug = none := by kernel_rfl
theorem laid_out : laidOutB Try.prog = true := by kernel_rfl
theorem cellsPoint : Try.prog.cellsOf 38 = 2 := by kernel_rfl
theorem cellsRow : Try.prog.cellsOf 30 = 2 := by kernel_rfl
theorem cellsPs : Try.prog.cellsOf 24 = 1 := by kernel_rfl
theorem cellsStr : Try.prog.cellsOf 9 = 1 := by kernel_rfl
theorem cellsInt : Try.prog.cellsOf 3 = 1 := by kernel_rfl
theorem cellsU64 : Try.prog.cellsOf 25 = 1 := by kernel_rfl
theorem bytesPoint : Try.prog.bytesOf 38 = 16 := by kernel_rfl
theorem bytesRow : 16 ≤ Try.prog.bytesOf 30 := by
  have : Try.prog.bytesOf 30 = 40 := by kernel_rfl
  omega

section
variable {H : Type} {enc : TypeId × Value → H} {w : World} {base : Nat} {spare : Nat → Bool} {held : Bool}
/-- A point's two cells. -/
theorem open_point {fuel : Nat} {cs : List Value} {x : DataW H × List MemPlace} (h : DataW.trod enc Try.prog w base spare held fuel 38 cs = some x) :
    ∃ p : Int × Int, cs = [.int .i64 p.1, .int .u64 p.2] ∧ Word p.2 := by
  obtain ⟨y0, y1, n, rfl, hl, h0, h1⟩ := trod_struct2 Try.underlying38 h
  rw [cellsPoint] at hl
  match cs, hl with
  | [c0, c1], _ =>
    simp only [cellsInt, cellsU64, List.drop_zero, List.take_succ_cons, List.take_zero, List.drop_succ_cons] at h0 h1
    obtain ⟨a, e0, _, _⟩ := DataW.trod_int Try.underlying3 h0
    obtain ⟨b, e1, _, wb⟩ := DataW.trod_int Try.underlying25 h1
    simp only [List.cons.injEq, and_true] at e0 e1
    subst e0; subst e1
    refine ⟨(a, b), rfl, ?_⟩
    have : 0 ≤ b ∧ b ≤ 18446744073709551615 := by simpa [Lit.wf, IntKind.min, IntKind.max, IntKind.signed, IntKind.bits] using wb
    exact ⟨this.1, by dsimp only; omega⟩
/-- A slice of points, opened. -/
theorem open_points {fuel : Nat} {cs : List Value} {x : DataW H × List MemPlace} (h : DataW.trod enc Try.prog w base spare held fuel 24 cs = some x)
    (hw : (x.1.weights Try.prog 24).all (· ≤ reachBytes) = true) :
    ∃ (A : Option Addr) (n c : Nat) (ps : List (Int × Int)), cs = [.slice A n c] ∧ n ≤ 140737488351232 ∧ n ≤ c ∧ c ≤ maxLen ∧ Rd w w.heap.size 2 A n (ps.flatMap fun p => [.int .i64 p.1, .int .u64 p.2]) ∧ ∀ p ∈ ps, Word p.2 := by
  obtain ⟨A, cap, ys, rfl, hc, hm, hys, hrd, hx⟩ := open_rd Try.underlying24 cellsPoint (by omega) h
  have hpts : ∃ ps : List (Int × Int), ys.map (·.1) = ps.map (fun p => [Value.int .i64 p.1, Value.int .u64 p.2]) ∧ ∀ p ∈ ps, Word p.2 := by
    clear hx hrd hc h hw
    induction ys with
    | nil => exact ⟨[], rfl, by simp⟩
    | cons y ys ih =>
      obtain ⟨ps, e, hps⟩ := ih (fun z hz => hys z (by simp [hz]))
      obtain ⟨_, m, q, hq⟩ := hys y (by simp)
      obtain ⟨p, hp, hpw⟩ := open_point hq
      exact ⟨p :: ps, by simp [hp, e], by intro z hz; rcases List.mem_cons.1 hz with rfl | hz; exact hpw; exact hps z hz⟩
  obtain ⟨ps, e, hps⟩ := hpts
  refine ⟨A, ys.length, cap, ps, rfl, ?_, hc, hm, ?_, hps⟩
  · rcases hx with ⟨_, rfl⟩ | ⟨sp, hx⟩
    · simp
    · rw [hx] at hw
      have := (weights_slice Try.underlying24 hw).1
      rw [bytesPoint] at this
      simp only [List.length_map, reachBytes] at this
      omega
  · have : ys.flatMap (·.1) = ps.flatMap (fun p => [Value.int .i64 p.1, Value.int .u64 p.2]) := by
      rw [List.flatMap_def, List.flatMap_def, e]
    rw [← this]; exact hrd
/-- A slice of rows, opened. -/
theorem open_rows {fuel : Nat} {cs : List Value} {x : DataW H × List MemPlace} (h : DataW.trod enc Try.prog w base spare held fuel 22 cs = some x)
    (hw : (x.1.weights Try.prog 22).all (· ≤ reachBytes) = true) :
    ∃ (A : Option Addr) (n c : Nat) (rs : List RowD), cs = [.slice A n c] ∧ n ≤ 140737488351232 ∧ RowsIn w w.heap.size A n rs ∧ (∀ r ∈ rs, r.n ≤ 140737488351232) ∧ ∀ r ∈ rs, ∀ p ∈ r.ps, Word p.2 := by
  obtain ⟨A, cap, ys, rfl, hc, hm, hys, hrd, hx⟩ := open_rd Try.underlying22 cellsRow (by omega) h
  have hyw : ∀ y ∈ ys, (y.2.weights Try.prog 30).all (· ≤ reachBytes) = true := by
    rcases hx with ⟨_, rfl⟩ | ⟨sp, hx⟩
    · simp
    · rw [hx] at hw
      intro y hy
      exact (weights_slice Try.underlying22 hw).2 y.2 (List.mem_map_of_mem hy)
  have hrows : ∃ rs : List RowD, ys.map (·.1) = rs.map (fun r => [Value.string r.s, Value.slice r.A r.n r.c]) ∧ (∀ r ∈ rs, Rd w w.heap.size 2 r.A r.n (r.ps.flatMap fun p => [.int .i64 p.1, .int .u64 p.2])) ∧ (∀ r ∈ rs, r.n ≤ 140737488351232) ∧ ∀ r ∈ rs, ∀ p ∈ r.ps, Word p.2 := by
    clear hx hrd hc hw h
    induction ys with
    | nil => exact ⟨[], rfl, by simp, by simp, by simp⟩
    | cons y ys ih =>
      obtain ⟨rs, e, i1, i2, i3⟩ := ih (fun z hz => hys z (by simp [hz])) (fun z hz => hyw z (by simp [hz]))
      obtain ⟨hl, m, q, hq⟩ := hys y (by simp)
      have hyw0 := hyw y (by simp)
      obtain ⟨yc, yd⟩ := y
      dsimp only at hl hq hyw0
      obtain ⟨y0, y1, k, hd, hl', h0, h1⟩ := trod_struct2 Try.underlying30 hq
      simp only [Prod.mk.injEq] at hd
      obtain ⟨rfl, _⟩ := hd
      match yc, hl with
      | [c0, c1], _ =>
        simp only [cellsStr, cellsPs, List.drop_zero, List.take_succ_cons, List.take_zero, List.drop_succ_cons] at h0 h1
        obtain ⟨s, e0, _, _⟩ := DataW.trod_string Try.underlying9 h0
        have hw1 : (y1.1.weights Try.prog 24).all (· ≤ reachBytes) = true := by
          have h2 : (DataW.weightsEach Try.prog [9, 24] [y0.1, y1.1]).all (· ≤ reachBytes) = true := by
            simpa [DataW.weights, Try.underlying30] using hyw0
          exact (weights_first (weights_first h2).2).1
        obtain ⟨A', n', c', ps, e1, hn', _, _, hr', hp'⟩ := open_points h1 hw1
        simp only [List.cons.injEq, and_true] at e0 e1
        subst e0; subst e1
        refine ⟨⟨s, A', n', c', ps⟩ :: rs, by simp [e], ?_, ?_, ?_⟩
        · intro r hr; rcases List.mem_cons.1 hr with rfl | hr; exact hr'; exact i1 r hr
        · intro r hr; rcases List.mem_cons.1 hr with rfl | hr; exact hn'; exact i2 r hr
        · intro r hr; rcases List.mem_cons.1 hr with rfl | hr; exact hp'; exact i3 r hr
  obtain ⟨rs, e, i1, i2, i3⟩ := hrows
  refine ⟨A, ys.length, cap, rs, rfl, ?_, ⟨?_, i1⟩, i2, i3⟩
  · rcases hx with ⟨_, rfl⟩ | ⟨sp, hx⟩
    · simp
    · rw [hx] at hw
      have h1 := (weights_slice Try.underlying22 hw).1
      have h2 := Nat.mul_le_mul_left ((ys.map (·.2)).length + sp.length) bytesRow
      simp only [List.length_map, reachBytes] at h1 h2
      omega
  · have : ys.flatMap (·.1) = rs.flatMap (fun r => [Value.string r.s, Value.slice r.A r.n r.c]) := by
      rw [List.flatMap_def, List.flatMap_def, e]
    rw [← this]; exact hrd
end

set_option maxRecDepth 100000 in
theorem sumsTotal_lifted (os : Os) (started : os.Started) (H : Type) (enc : TypeId × Value → H) :
    ReturnsInHanded {} Try.checked os 3 .any (Rows.sumsTotalSpec.pre6 enc Try.prog Try.f3 Rows.sumsTotalRow.domain false) (Rows.sumsTotalSpec.post enc Try.prog Try.f3 false true false false) := by
  refine returnsInHanded_of_change_sized (C := Try.checked) own_knob started (by kernel_rfl) Try.func3
    (ChangeSpec.witness6 (enc := enc) (C := Try.checked) false ⟨#[], #[.slice none 0 0], []⟩ 8 (by kernel_rfl) (by kernel_rfl) (by kernel_rfl) (by kernel_rfl)) ?_
  intro W base args ds gs before hval0 hW _ hsz0 _
  have hsz : (DataW.weightsEach Try.prog (Try.f3.params.toList ++ Rows.sumsTotalSpec.plain.varTypes Try.prog) (ds ++ gs)).all (· ≤ reachBytes) = true := hsz0
  clear hsz0
  have hW' := hW
  obtain ⟨p, q, hA0, hV, rfl, _, _⟩ := hW
  have hA : DataW.TrodAll enc Try.prog W 0 (fun _ => true) true Try.f3.params.toList args.toList ds p := hA0
  have hval : ∀ (j : Nat) t v, Try.f3.params[j]? = some t → args[j]? = some v → Value.okWide Try.prog W .any base t v := hval0
  rw [Try.params3] at hA hsz hval
  obtain ⟨v0, d0, rfl, rfl, h0⟩ := trodAll_one hA
  obtain ⟨rfl, rfl⟩ := trodVars_none hV
  obtain ⟨a0, n0, c0, rfl⟩ := okWide_slice Try.underlying22 (hval 0 22 v0 rfl rfl)
  have h0k := h0
  obtain ⟨fuel, hf⟩ := h0
  have hw0 : (d0.weights Try.prog 22).all (· ≤ reachBytes) = true := (weights_first hsz).1
  clear hA0 hval0 hsz
  simp only [List.append_nil] at hW'
  have hlt : ∀ x ∈ p, x.block < W.heap.size := fun x hx => by simpa using hW'.lt x hx
  obtain ⟨A, n, c, rs, hcs, hn, hrows, hrn, hrw⟩ := open_rows hf hw0
  simp [Value.cells] at hcs
  obtain ⟨rfl, rfl, rfl⟩ := hcs
  refine (law_any a0 n0 c0 rs W hrows hn hrn hrw).mono fun e W' ⟨he, hb⟩ => ?_
  subst he
  refine ⟨_, rfl, _, _, _, [], p, [], hW', ?_, ?_, rfl, hb.frame _, fun h => by cases h⟩
  · exact trodAll_mk1 (shut_bool Try.underlying4 true)
  · exact trodAll_mk1 (Below.trod laid_out (by kernel_rfl) (of_decide_eq_true (by kernel_rfl)) h0k hb hlt)

theorem sumsTotal_holds : Rows.SumsTotalSaid :=
  OpenClaim.holds_of_wide 3 Try.f3 rfl rfl rfl rfl rfl rfl rfl ⟨rfl, rfl, rfl, rfl, rfl⟩ rfl rfl rfl rfl rfl (by kernel_rfl) Try.func3 (by kernel_rfl)
    (of_decide_eq_true (by kernel_rfl)) (by unfold Func.isWrapper; first | (rw [if_pos (by decide +kernel)]; kernel_rfl) | (rw [if_neg (by decide +kernel)]; exact ⟨rfl, rfl⟩))
    (fun os started H enc _ => sumsTotal_lifted os started H enc)
end Go.Proofs.Ytiohnehccmbplaa
