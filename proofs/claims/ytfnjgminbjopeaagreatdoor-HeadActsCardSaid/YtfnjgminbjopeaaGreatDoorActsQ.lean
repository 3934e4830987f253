/- An argument of acts on a head. -/
import Derived.Test.YtfnjgminbjopeaaGreatDoorLabelledQ
import Derived.Test.YtfnjgminbjopeaaGreatDoorMgah
import Derived.Test.YtfnjgminbjopeaaGreatDoorSums
namespace Go.Proofs.YtfnjgminbjopeaaGreatDoor
open Go.RowKit Go.ChangeShapes Go.WideShapes Go.ChangeAt
set_option linter.unusedVariables false

structure ActV where
  kd : Bs
  nm : Bs
  p : Int × Int
  more : Int
def actL (a : ActV) : List Value := [.string (B8 a.kd), .string (B8 a.nm), .int .i64 a.p.1, .int .u64 a.p.2, .int .i64 a.more]
def actC (l : List ActV) : List Value := l.flatMap actL
theorem Rd.atA {w : World} {B n : Nat} {A : Option Addr} {ys : List ActV} (h : Rd w B 5 A n (actC ys)) {k : Nat} (hk : k < n) :
    ∃ b o y, A = some ⟨b, o, none⟩ ∧ b < B ∧ ys[k]? = some y ∧ w.cell? ⟨b, o + k * 5, none⟩ = some (.string (B8 y.kd)) ∧ w.cell? ⟨b, o + k * 5 + 1, none⟩ = some (.string (B8 y.nm)) ∧ w.cell? ⟨b, o + k * 5 + 2, none⟩ = some (.int .i64 y.p.1) ∧
      w.cell? ⟨b, o + k * 5 + 3, none⟩ = some (.int .u64 y.p.2) ∧ w.cell? ⟨b, o + k * 5 + 4, none⟩ = some (.int .i64 y.more) := by
  obtain ⟨b, o, e, hb, hc⟩ := h.2 (by omega)
  have hl : k < ys.length := by have := h.1; unfold actC at this; rw [flat_len _ 5 (fun _ => rfl)] at this; omega
  have hy : ys[k]? = some ys[k] := List.getElem?_eq_getElem hl
  refine ⟨b, o, ys[k], e, hb, hy, ?_, ?_, ?_, ?_, ?_⟩
  · exact hc (k * 5) _ (flat_get actL 5 (fun _ => rfl) ys k 0 ys[k] hy (by omega))
  · rw [Nat.add_assoc]; exact hc (k * 5 + 1) _ (flat_get actL 5 (fun _ => rfl) ys k 1 ys[k] hy (by omega))
  · rw [Nat.add_assoc]; exact hc (k * 5 + 2) _ (flat_get actL 5 (fun _ => rfl) ys k 2 ys[k] hy (by omega))
  · rw [Nat.add_assoc]; exact hc (k * 5 + 3) _ (flat_get actL 5 (fun _ => rfl) ys k 3 ys[k] hy (by omega))
  · rw [Nat.add_assoc]; exact hc (k * 5 + 4) _ (flat_get actL 5 (fun _ => rfl) ys k 4 ys[k] hy (by omega))
theorem cellsAct : Tryz.prog.cellsOf 34 = 5 := by kernel_rfl
theorem cellsPt2 : Tryz.prog.cellsOf 32 = 2 := by kernel_rfl
theorem cellsI1 : Tryz.prog.cellsOf 3 = 1 := by kernel_rfl
theorem cellsU1 : Tryz.prog.cellsOf 30 = 1 := by kernel_rfl
theorem cellsS1 : Tryz.prog.cellsOf 9 = 1 := by kernel_rfl
theorem bytesAct : Tryz.prog.bytesOf 34 = 56 := by kernel_rfl
section
variable {H : Type} {enc : TypeId × Value → H} {w : World} {base : Nat} {spare : Nat → Bool} {held : Bool}
theorem trod4 {P : Program} {t : TypeId} {f0 f1 f2 f3 : Field} {fuel : Nat} {cs : List Value} {x : DataW H × List MemPlace} (ht : P.underlying t = some (.struct #[f0, f1, f2, f3])) (h : DataW.trod enc P w base spare held fuel t cs = some x) :
    ∃ y0 y1 y2 y3 n, cs.length = P.cellsOf t ∧ DataW.trod enc P w base spare held n f0.type ((cs.drop f0.offset).take (P.cellsOf f0.type)) = some y0 ∧
      DataW.trod enc P w base spare held n f1.type ((cs.drop f1.offset).take (P.cellsOf f1.type)) = some y1 ∧ DataW.trod enc P w base spare held n f2.type ((cs.drop f2.offset).take (P.cellsOf f2.type)) = some y2 ∧
      DataW.trod enc P w base spare held n f3.type ((cs.drop f3.offset).take (P.cellsOf f3.type)) = some y3 := by
  obtain ⟨xs, n, _, rfl, hl, hlen, hf⟩ := DataW.trod_struct ht h
  match xs, hlen with
  | [y0, y1, y2, y3], _ => exact ⟨y0, y1, y2, y3, n, hl, by simpa using hf 0 f0 rfl, by simpa using hf 1 f1 rfl, by simpa using hf 2 f2 rfl, by simpa using hf 3 f3 rfl⟩
set_option maxRecDepth 100000 in
theorem open_act {fuel : Nat} {cs : List Value} {x : DataW H × List MemPlace} (h : DataW.trod enc Tryz.prog w base spare held fuel 34 cs = some x) :
    ∃ a : ActV, cs = actL a ∧ Word a.p.2 := by
  obtain ⟨y0, y1, y2, y3, n, hl, h0, h1, h2, h3⟩ := trod4 Tryz.underlying34 h
  rw [cellsAct] at hl
  match cs, hl with
  | [c0, c1, c2, c3, c4], _ =>
    simp only [cellsS1, cellsPt2, cellsI1, List.drop_zero, List.take_succ_cons, List.take_zero, List.drop_succ_cons] at h0 h1 h2 h3
    obtain ⟨a, e0, _, _⟩ := DataW.trod_string Tryz.underlying9 h0
    obtain ⟨b, e1, _, _⟩ := DataW.trod_string Tryz.underlying9 h1
    obtain ⟨z0, z1, m, _, _, g0, g1⟩ := trod_struct2 Tryz.underlying32 h2
    simp only [cellsI1, cellsU1, List.drop_zero, List.take_succ_cons, List.take_zero, List.drop_succ_cons] at g0 g1
    obtain ⟨c, e2, _, _⟩ := DataW.trod_int Tryz.underlying3 g0
    obtain ⟨d, e3, _, wd⟩ := DataW.trod_int Tryz.underlying30 g1
    obtain ⟨f, e4, _, _⟩ := DataW.trod_int Tryz.underlying3 h3
    simp only [List.cons.injEq, and_true] at e0 e1 e2 e3 e4
    subst e0; subst e1; subst e2; subst e3; subst e4
    obtain ⟨la, rfl, _⟩ := B8_of a
    obtain ⟨lb, rfl, _⟩ := B8_of b
    refine ⟨⟨la, lb, (c, d), f⟩, rfl, ?_⟩
    have : 0 ≤ d ∧ d ≤ 18446744073709551615 := by simpa [Lit.wf, IntKind.min, IntKind.max, IntKind.signed, IntKind.bits] using wd
    exact ⟨this.1, by dsimp only; omega⟩
set_option maxRecDepth 100000 in
theorem open_acts {fuel : Nat} {cs : List Value} {x : DataW H × List MemPlace} (h : DataW.trod enc Tryz.prog w base spare held fuel 22 cs = some x)
    (hw : (x.1.weights Tryz.prog 22).all (· ≤ reachBytes) = true) :
    ∃ (A : Option Addr) (n c : Nat) (ps : List ActV), cs = [.slice A n c] ∧ n ≤ 140737488351232 ∧ n ≤ c ∧ c ≤ maxLen ∧ Rd w w.heap.size 5 A n (actC ps) ∧ ∀ a ∈ ps, Word a.p.2 := by
  obtain ⟨A, cap, ys, rfl, hc, hm, hys, hrd, hx⟩ := open_rd Tryz.underlying22 cellsAct (by omega) h
  have hpts : ∃ ps : List ActV, ys.map (·.1) = ps.map actL ∧ ∀ a ∈ ps, Word a.p.2 := by
    clear hx hrd hc h hw
    induction ys with
    | nil => exact ⟨[], rfl, by simp⟩
    | cons y ys ih =>
      obtain ⟨ps, e, hps⟩ := ih (fun z hz => hys z (by simp [hz]))
      obtain ⟨_, m, q, hq⟩ := hys y (by simp)
      obtain ⟨p, hp, hpw⟩ := open_act hq
      exact ⟨p :: ps, by simp [hp, e], by intro z hz; rcases List.mem_cons.1 hz with rfl | hz; exact hpw; exact hps z hz⟩
  obtain ⟨ps, e, hps⟩ := hpts
  refine ⟨A, ys.length, cap, ps, rfl, ?_, hc, hm, ?_, hps⟩
  · rcases hx with ⟨_, rfl⟩ | ⟨sp, hx⟩
    · simp
    · rw [hx] at hw
      have := (weights_slice Tryz.underlying22 hw).1
      rw [bytesAct] at this
      simp only [List.length_map, reachBytes] at this
      omega
  · have : ys.flatMap (·.1) = actC ps := by
      unfold actC
      rw [List.flatMap_def, List.flatMap_def, e]
    rw [← this]; exact hrd
end
end Go.Proofs.YtfnjgminbjopeaaGreatDoor
