/- An argument of a log's entries. -/
import Derived.Test.YtfkklcmepcocoaaDoorMhah
import Derived.Test.YtfkklcmepcocoaaDoorWalSentsQ
import Derived.Test.YtfkklcmepcocoaaDoorOpen
namespace Go.Proofs.YtfkklcmepcocoaaDoor
open Go.RowKit Go.ChangeShapes Go.WideShapes Go.ChangeAt
set_option linter.unusedVariables false

theorem cellsREn : Tryd.prog.cellsOf 41 = 3 := by kernel_rfl
theorem cellsPt2 : Tryd.prog.cellsOf 34 = 2 := by kernel_rfl
theorem cellsI1 : Tryd.prog.cellsOf 3 = 1 := by kernel_rfl
theorem cellsU1 : Tryd.prog.cellsOf 32 = 1 := by kernel_rfl
theorem cellsS1 : Tryd.prog.cellsOf 9 = 1 := by kernel_rfl
theorem bytesREn : Tryd.prog.bytesOf 41 = 32 := by kernel_rfl
theorem i64_of_wf {n : Int} (h : (Lit.int IntKind.i64 n).wf) : -9223372036854775808 ≤ n ∧ n ≤ 9223372036854775807 := by
  simpa [Lit.wf, IntKind.min, IntKind.max, IntKind.signed, IntKind.bits] using h
section
variable {H : Type} {enc : TypeId × Value → H} {w : World} {base : Nat} {spare : Nat → Bool} {held : Bool}
theorem trod2s {P : Program} {t : TypeId} {f0 f1 : Field} {fuel : Nat} {cs : List Value} {x : DataW H × List MemPlace} (ht : P.underlying t = some (.struct #[f0, f1])) (h : DataW.trod enc P w base spare held fuel t cs = some x) :
    ∃ y0 y1 n, cs.length = P.cellsOf t ∧ DataW.trod enc P w base spare held n f0.type ((cs.drop f0.offset).take (P.cellsOf f0.type)) = some y0 ∧
      DataW.trod enc P w base spare held n f1.type ((cs.drop f1.offset).take (P.cellsOf f1.type)) = some y1 := by
  obtain ⟨xs, n, _, rfl, hl, hlen, hf⟩ := DataW.trod_struct ht h
  match xs, hlen with
  | [y0, y1], _ => exact ⟨y0, y1, n, hl, by simpa using hf 0 f0 rfl, by simpa using hf 1 f1 rfl⟩
set_option maxRecDepth 100000 in
theorem open_entry {fuel : Nat} {cs : List Value} {x : DataW H × List MemPlace} (h : DataW.trod enc Tryd.prog w base spare held fuel 41 cs = some x) :
    ∃ e : En, cs = enL e ∧ e.bit < 18446744073709551616 := by
  obtain ⟨y0, y1, n, hl, h0, h1⟩ := trod2s Tryd.underlying41 h
  rw [cellsREn] at hl
  match cs, hl with
  | [c0, c1, c2], _ =>
    simp only [cellsS1, cellsPt2, List.drop_zero, List.take_succ_cons, List.take_zero, List.drop_succ_cons] at h0 h1
    obtain ⟨a, e0, _, _⟩ := DataW.trod_string Tryd.underlying9 h0
    obtain ⟨z0, z1, m, _, g0, g1⟩ := trod2s Tryd.underlying34 h1
    simp only [cellsI1, cellsU1, List.drop_zero, List.take_succ_cons, List.take_zero, List.drop_succ_cons] at g0 g1
    obtain ⟨c, e2, _, _⟩ := DataW.trod_int Tryd.underlying3 g0
    obtain ⟨d, e3, _, wd⟩ := DataW.trod_int Tryd.underlying32 g1
    simp only [List.cons.injEq, and_true] at e0 e2 e3
    subst e0; subst e2; subst e3
    obtain ⟨la, rfl⟩ := b8_of a
    have hd : 0 ≤ d ∧ d ≤ 18446744073709551615 := by simpa [Lit.wf, IntKind.min, IntKind.max, IntKind.signed, IntKind.bits] using wd
    obtain ⟨m, rfl⟩ : ∃ m : Nat, d = (m : Int) := ⟨d.toNat, by omega⟩
    exact ⟨⟨la, c, m⟩, rfl, by dsimp only; omega⟩
set_option maxRecDepth 100000 in
theorem open_entries {fuel : Nat} {cs : List Value} {x : DataW H × List MemPlace} (h : DataW.trod enc Tryd.prog w base spare held fuel 39 cs = some x)
    (hw : (x.1.weights Tryd.prog 39).all (· ≤ reachBytes) = true) :
    ∃ (A : Option Addr) (n c : Nat) (ps : List En), cs = [.slice A n c] ∧ n ≤ 140737488351232 ∧ n ≤ c ∧ c ≤ maxLen ∧ Rd w w.heap.size 3 A n (enC ps) ∧ ∀ a ∈ ps, a.bit < 18446744073709551616 := by
  obtain ⟨A, cap, ys, rfl, hc, hm, hys, hrd, hx⟩ := open_rd Tryd.underlying39 cellsREn (by omega) h
  have hpts : ∃ ps : List En, ys.map (·.1) = ps.map enL ∧ ∀ a ∈ ps, a.bit < 18446744073709551616 := by
    clear hx hrd hc h hw
    induction ys with
    | nil => exact ⟨[], rfl, by simp⟩
    | cons y ys ih =>
      obtain ⟨ps, e, hps⟩ := ih (fun z hz => hys z (by simp [hz]))
      obtain ⟨_, m, q, hq⟩ := hys y (by simp)
      obtain ⟨p, hp, hpw⟩ := open_entry hq
      exact ⟨p :: ps, by simp [hp, e], by intro z hz; rcases List.mem_cons.1 hz with rfl | hz; exact hpw; exact hps z hz⟩
  obtain ⟨ps, e, hps⟩ := hpts
  refine ⟨A, ys.length, cap, ps, rfl, ?_, hc, hm, ?_, hps⟩
  · rcases hx with ⟨_, rfl⟩ | ⟨sp, hx⟩
    · simp
    · rw [hx] at hw
      have := (weights_slice Tryd.underlying39 hw).1
      rw [bytesREn] at this
      simp only [List.length_map, reachBytes] at this
      omega
  · have : ys.flatMap (·.1) = enC ps := by
      unfold enC
      rw [List.flatMap_def, List.flatMap_def, e]
    rw [← this]; exact hrd
end
end Go.Proofs.YtfkklcmepcocoaaDoor
