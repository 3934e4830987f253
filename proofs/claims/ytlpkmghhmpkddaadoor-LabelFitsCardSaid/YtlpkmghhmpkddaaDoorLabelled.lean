/- labelled, LongLabels, faulted in the words of EV; labels as an argument, opened. -/
import Derived.Test.YtlpkmghhmpkddaaDoorLabSum
import Derived.Test.YtlpkmghhmpkddaaDoorTicksRef
import Derived.Test.YtlpkmghhmpkddaaDoorOpen
namespace Go.Proofs.YtlpkmghhmpkddaaDoor
open Go.RowKit Go.ChangeShapes Go.WideShapes Go.ChangeAt
set_option linter.unusedVariables false

theorem lbC_one (l : List Lb) : ∀ u ∈ lbC l, u.oneCell' = true := by
  intro u hu
  unfold lbC at hu
  rw [List.mem_flatMap] at hu
  obtain ⟨p, _, hp⟩ := hu
  simp at hp
  rcases hp with rfl | rfl <;> rfl
theorem faulted_ev {es : Nat → Addr} {B C : Nat} (v : Value) (c1 : Nat) (c2 : Int) (w : World) (hS : Sents es B w) (hB : B ≤ w.heap.size) (hv : EV es C w v (c1, c2)) :
    Calls Tryd.prog 9 #[v, .agg #[.int .i64 (c1 : Int), .int .i64 c2]] w fun e w' => e = .returned (.bool true) ∧ Below w.heap.size w w' :=
  faulted_any v c1 c2 c1 c2 w hS hB (hv.is hS) rfl (.inr rfl)

/-- Two labels, for 'labelled'. -/
def twoL : List Lb := [([97], [120]), ([98], [49])]
theorem twoL_ok : ∀ j, j < 2 → lbOk twoL j := by
  intro j hj
  rcases (show j = 0 ∨ j = 1 by omega) with rfl | rfl
  · decide
  · decide
set_option maxRecDepth 100000 in
theorem labelled_any {es : Nat → Addr} {B : Nat} (w : World) (hS : SVL es B w) (hB0 : B ≤ w.heap.size) :
    Calls Tryd.prog 4 #[] w fun e w' => e = .returned (.bool true) ∧ Below w.heap.size w w' := by
  have hW : ∀ ca, Below w.heap.size w (w.alloc (.cells #[.string ⟨#[97]⟩, .string ⟨#[120]⟩, .string ⟨#[98]⟩, .string ⟨#[49]⟩] ca)) := fun ca => Below.alloc (Below.refl _ _) (Nat.le_refl _) _
  have Ht := Lib.hid (fun W (hb : Below w.heap.size w W) (hr : Rd W W.heap.size 2 (some ⟨w.heap.size, 0, none⟩) 2 (lbC twoL)) => text_ok (some ⟨w.heap.size, 0, none⟩) 2 2 twoL W (hS.below hb hB0) (Nat.le_trans hB0 hb.size) hr (by decide) (by decide) twoL_ok)
  have HT := Lib.hid (show textL twoL = [97, 61, 120, 44, 98, 61, 49] from by decide)
  clear hS
  go_enter Tryd.func4, Tryd.ntmps4
  go_wp2_with fail
  refine (Ht.out _ (hW _) ⟨rfl, fun _ => ⟨w.heap.size, 0, rfl, by simp, fun j u hu => ?_⟩⟩).mono ?_
  · rw [Nat.zero_add, (Blk.new w 28 #[.string ⟨#[97]⟩, .string ⟨#[120]⟩, .string ⟨#[98]⟩, .string ⟨#[49]⟩]).cell j]
    show (lbC twoL).toArray[j]? = some u
    rw [List.getElem?_toArray]; exact hu
  rintro e w1 ⟨rfl, hb⟩
  rw [HT.out]
  have Hb := Lib.hid (Below.call (hW _) hb (by simp))
  clear hb hW
  go_wp2
  go_ret
  refine ⟨?_, Hb.out⟩
  show Ending.returned (.bool ((B8 [97, 61, 120, 44, 98, 61, 49]).toList == _)) = _
  rw [B8_toList]; rfl

/-- Short enough for a statement. -/
def LbSmall (l : List Lb) : Prop := ∀ p ∈ l, p.1.length ≤ 60 ∧ p.2.length ≤ 60
set_option maxRecDepth 100000 in
theorem longLabels_any (A : Option Addr) (n c : Nat) (l : List Lb) (w : World) (hA : Rd w w.heap.size 2 A n (lbC l)) :
    Calls Tryd.prog 5 #[.slice A n c] w fun e w' => (e = .returned (.int .i64 1) ∨ (e = .returned (.int .i64 0) ∧ n ≤ 20 ∧ LbSmall l)) ∧ w = w' := by
  have hla : l.length = n := by have := hA.1; rw [lbC_len] at this; omega
  have Hla := Lib.hid hla
  by_cases h20 : 20 < n
  · have h20' : (20 : Int) < n := by omega
    clear hA hla
    go_enter Tryd.func5, Tryd.ntmps5
    go_wp2
    go_ret
    exact ⟨.inl rfl, rfl⟩
  have hn : (n : Int) ≤ 20 := by omega
  have HA := Lib.hid hA
  clear hA hla h20
  go_enter Tryd.func5, Tryd.ntmps5
  go_wp2
  go_loop [3] (fun iv => ∃ k : Nat, k ≤ n ∧ iv = .int .i64 k ∧ LbSmall (l.take k)) (fun iv => n - (intOf iv).toNat)
  case atStart => exact ⟨0, Nat.zero_le _, rfl, by intro p hp; simp at hp⟩
  case round =>
    obtain ⟨k, hk, rfl, hpre⟩ := hrel
    have Hpre := Lib.hid hpre
    clear hpre
    by_cases hkn : k < n
    · obtain ⟨b, o, y, rfl, had, hy, e0, e1⟩ := HA.out.at2 hkn
      have hs1 : (B8 y.1).size = y.1.length := B8_size _
      have hs2 : (B8 y.2).size = y.2.length := B8_size _
      have Htk := Lib.hid (take_snoc hy)
      obtain ⟨m1, hm1⟩ : ∃ m1, m1 = y.1.length := ⟨_, rfl⟩
      obtain ⟨m2, hm2⟩ : ∃ m2, m2 = y.2.length := ⟨_, rfl⟩
      rw [← hm1] at hs1; rw [← hm2] at hs2
      have Hm1 := Lib.hid hm1; have Hm2 := Lib.hid hm2
      clear hy hm1 hm2
      generalize B8 y.1 = t1 at e0 hs1
      generalize B8 y.2 = t2 at e1 hs2
      by_cases g1 : 60 < m1
      · have g1' : (60 : Int) < m1 := by omega
        go_wp2
        go_ret
        exact ⟨.inl rfl, rfl⟩
      · have g1' : ¬ (60 : Int) < m1 := by omega
        by_cases g2 : 60 < m2
        · have g2' : (60 : Int) < m2 := by omega
          go_wp2
          go_ret
          exact ⟨.inl rfl, rfl⟩
        · have g2' : ¬ (60 : Int) < m2 := by omega
          go_wp2
          go_round
          case rel => exact ⟨k + 1, by omega, by go_num, fun p hp => by
            rw [Htk.out, List.mem_append] at hp
            rcases hp with hp | hp
            · exact Hpre.out p hp
            · simp at hp; subst hp; have := Hm1.out; have := Hm2.out; omega⟩
          case measure => simp [intOf]; omega
    · obtain rfl : k = n := by omega
      go_wp2
      go_ret
      exact ⟨.inr ⟨rfl, by omega, fun p hp => Hpre.out p (by rw [List.take_of_length_le (by rw [Hla.out]; exact Nat.le_refl _)]; exact hp)⟩, rfl⟩

section
variable {H : Type} {enc : TypeId × Value → H} {w : World} {base : Nat} {spare : Nat → Bool} {held : Bool}
theorem cellsLb : Tryd.prog.cellsOf 28 = 2 := by kernel_rfl
theorem cellsStr1 : Tryd.prog.cellsOf 9 = 1 := by kernel_rfl
theorem bytesLb : Tryd.prog.bytesOf 28 = 32 := by kernel_rfl
theorem B8_of (s : ByteArray) : ∃ l : Bs, s = B8 l ∧ l.length = s.size := ⟨s.data.toList, by cases s; rfl, by simp⟩
set_option maxRecDepth 100000 in
/-- A label's two cells. -/
theorem open_label {fuel : Nat} {cs : List Value} {x : DataW H × List MemPlace} (h : DataW.trod enc Tryd.prog w base spare held fuel 28 cs = some x) :
    ∃ p : Lb, cs = [.string (B8 p.1), .string (B8 p.2)] := by
  obtain ⟨y0, y1, n, rfl, hl, h0, h1⟩ := trod_struct2 Tryd.underlying28 h
  rw [cellsLb] at hl
  match cs, hl with
  | [c0, c1], _ =>
    simp only [cellsStr1, List.drop_zero, List.take_succ_cons, List.take_zero, List.drop_succ_cons] at h0 h1
    obtain ⟨a, e0, _, _⟩ := DataW.trod_string Tryd.underlying9 h0
    obtain ⟨b, e1, _, _⟩ := DataW.trod_string Tryd.underlying9 h1
    simp only [List.cons.injEq, and_true] at e0 e1
    subst e0; subst e1
    obtain ⟨la, rfl, _⟩ := B8_of a
    obtain ⟨lb, rfl, _⟩ := B8_of b
    exact ⟨(la, lb), rfl⟩
set_option maxRecDepth 100000 in
/-- A slice of labels, opened. -/
theorem open_labels {fuel : Nat} {cs : List Value} {x : DataW H × List MemPlace} (h : DataW.trod enc Tryd.prog w base spare held fuel 22 cs = some x)
    (hw : (x.1.weights Tryd.prog 22).all (· ≤ reachBytes) = true) :
    ∃ (A : Option Addr) (n c : Nat) (ps : List Lb), cs = [.slice A n c] ∧ n ≤ 140737488351232 ∧ n ≤ c ∧ c ≤ maxLen ∧ Rd w w.heap.size 2 A n (lbC ps) ∧ True := by
  obtain ⟨A, cap, ys, rfl, hc, hm, hys, hrd, hx⟩ := open_rd Tryd.underlying22 cellsLb (by omega) h
  have hpts : ∃ ps : List Lb, ys.map (·.1) = ps.map (fun p => [Value.string (B8 p.1), Value.string (B8 p.2)]) := by
    clear hx hrd hc h hw
    induction ys with
    | nil => exact ⟨[], rfl⟩
    | cons y ys ih =>
      obtain ⟨ps, e⟩ := ih (fun z hz => hys z (by simp [hz]))
      obtain ⟨_, m, q, hq⟩ := hys y (by simp)
      obtain ⟨p, hp⟩ := open_label hq
      exact ⟨p :: ps, by simp [hp, e]⟩
  obtain ⟨ps, e⟩ := hpts
  refine ⟨A, ys.length, cap, ps, rfl, ?_, hc, hm, ?_, trivial⟩
  · rcases hx with ⟨_, rfl⟩ | ⟨sp, hx⟩
    · simp
    · rw [hx] at hw
      have := (weights_slice Tryd.underlying22 hw).1
      rw [bytesLb] at this
      simp only [List.length_map, reachBytes] at this
      omega
  · have : ys.flatMap (·.1) = lbC ps := by
      unfold lbC
      rw [List.flatMap_def, List.flatMap_def, e]
    rw [← this]; exact hrd
end
end Go.Proofs.YtlpkmghhmpkddaaDoor
