/- A log's entries read one by one. -/
import Derived.Test.YtfkklcmepcocoaaGreatDoorMkc
import Derived.BigQuiet
import Derived.Test.YtfkklcmepcocoaaGreatDoorLabF
import Derived.Test.YtfkklcmepcocoaaGreatDoorCode
import Derived.Test.YtfkklcmepcocoaaGreatDoorBase
import Derived.ProofKit
import Derived.SizedLaws
import Derived.Deep.Slices
import Derived.Test.YtfkklcmepcocoaaGreatDoorMka
namespace Go.Proofs.YtfkklcmepcocoaaGreatDoor
open Go.RowKit
set_option linter.unusedVariables false
theorem en_at {W : World} {B n : Nat} {A : Option Addr} {l : List En} (h : Rd W B 3 A n (enC l)) {k : Nat} (hk : k < n) :
    ∃ b o e, A = some ⟨b, o, none⟩ ∧ b < B ∧ l[k]? = some e ∧ W.cell? ⟨b, o + k * 3, none⟩ = some (.string (B8 e.nm)) ∧ W.cell? ⟨b, o + k * 3 + 1, none⟩ = some (.int .i64 e.tick) ∧ W.cell? ⟨b, o + k * 3 + 2, none⟩ = some (.int .u64 (e.bit : Int)) := by
  obtain ⟨b, o, e, hb, hc⟩ := h.2 (by omega)
  have hl : k < l.length := by
    have := h.1
    unfold enC at this
    rw [flat_len enL 3 (fun _ => rfl)] at this; omega
  have hy : l[k]? = some l[k] := List.getElem?_eq_getElem hl
  have hg : ∀ j, j < 3 → (enC l)[k * 3 + j]? = (enL l[k])[j]? := fun j hj => flat_get enL 3 (fun _ => rfl) l k j l[k] hy hj
  refine ⟨b, o, l[k], e, hb, hy, hc (k * 3) _ (hg 0 (by decide)), ?_, ?_⟩
  · rw [Nat.add_assoc]; exact hc (k * 3 + 1) _ (hg 1 (by decide))
  · rw [Nat.add_assoc]; exact hc (k * 3 + 2) _ (hg 2 (by decide))
end Go.Proofs.YtfkklcmepcocoaaGreatDoor

namespace Go.Proofs.YtfkklcmepcocoaaGreatDoor
open Go.RowKit
set_option linter.unusedVariables false
set_option maxRecDepth 100000 in
theorem sameEntries_eq (A : Option Addr) (n c : Nat) (A' : Option Addr) (c' : Nat) (l : List En) (w : World) (hA : Rd w w.heap.size 3 A n (enC l)) (hA' : Rd w w.heap.size 3 A' n (enC l)) (hn : n ≤ 100000) :
    Calls Tryz.prog 28 #[.slice A n c, .slice A' n c'] w fun e w' => e = .returned (.bool true) ∧ Below w.heap.size w w' := by
  have HA := Lib.hid hA; have HA' := Lib.hid hA'
  clear hA hA'
  go_enter Tryz.func28, Tryz.ntmps28
  go_wp2
  go_loopw [5] (fun i wr => ∃ k : Nat, k ≤ n ∧ i = .int .i64 k ∧ Below w.heap.size w wr) (fun i _ => n - (intOf i).toNat)
  case atStart => exact ⟨0, Nat.zero_le _, rfl, Below.refl _ _⟩
  case round =>
    obtain ⟨k, hk, rfl, hbel⟩ := hrel
    by_cases hkn : k < n
    · have hkn' : (k : Int) < n := by omega
      obtain ⟨b0, o0, y, hA0, had0, hy0, x0, x1, x2⟩ := en_at (HA.out.below hbel) hkn
      obtain ⟨b1, o1, z, hA1, had1, hz1, y0, y1, y2⟩ := en_at (HA'.out.below hbel) hkn
      obtain rfl : y = z := Option.some.inj (hy0.symm.trans hz1)
      subst hA0; subst hA1
      have Hbel := Lib.hid hbel
      generalize B8 y.nm = sy at x0 y0
      generalize y.tick = ty at x1 y1
      generalize y.bit = by_ at x2 y2
      clear hy0 hz1 hbel
      go_wp2
      go_quiet (fail)
      go_wp2
      go_roundw
      case rel => exact ⟨k + 1, by omega, by go_num, Below.drewN Hbel.out _⟩
      case measure => simp [intOf]; omega
    · obtain rfl : k = n := by omega
      have Hbel := Lib.hid hbel
      clear hbel
      go_wp2
      go_ret
      exact ⟨rfl, Hbel.out⟩
end Go.Proofs.YtfkklcmepcocoaaGreatDoor

namespace Go.Proofs.YtfkklcmepcocoaaGreatDoor
open Go.RowKit
set_option linter.unusedVariables false

theorem res_bare (tmps : Array Value) (W : World) (b : Nat) (v0 v1 : Value) (ha : tmps.getD 2 undef = .pointer (some ⟨b, 0, none⟩)) (hB : Blk W b 57 #[v0, v1]) :
    (results Tryz.f62 tmps).run Tryz.prog W = .ok (.agg #[v0, v1]) W := by
  obtain ⟨z0, z1⟩ := hB.duo2
  simp only [Array.getD_eq_getD_getElem?] at ha
  simp [results, Tryz.results62, go_sem, ha, z0, z1]
theorem bare_any (k : Int) (w : World) : Calls Tryz.prog 62 #[.int .i64 k] w fun e w' => e = .returned (.agg #[.int .i64 k, .int .i64 (-1)]) ∧ Below w.heap.size w w' := by
  go_enter Tryz.func62, Tryz.ntmps62
  go_wp2
  (try simp only [Exit.inBlock, Exit.then])
  have HB := Blk.new w 57 #[.int .i64 k, .int .i64 (-1)]
  refine bodyPost_ret (res_bare _ _ w.heap.size _ _ rfl HB) rfl ?_
  exact ⟨rfl, by go_grown⟩
theorem res_fine (tmps : Array Value) (W : World) (b : Nat) (v0 v1 : Value) (ha : tmps.getD 0 undef = .pointer (some ⟨b, 0, none⟩)) (hB : Blk W b 57 #[v0, v1]) :
    (results Tryz.f63 tmps).run Tryz.prog W = .ok (.agg #[v0, v1]) W := by
  obtain ⟨z0, z1⟩ := hB.duo2
  simp only [Array.getD_eq_getD_getElem?] at ha
  simp [results, Tryz.results63, go_sem, ha, z0, z1]
theorem fine_any (w : World) : Calls Tryz.prog 63 #[] w fun e w' => e = .returned (.agg #[.int .i64 0, .int .i64 (-1)]) ∧ Below w.heap.size w w' := by
  go_enter Tryz.func63, Tryz.ntmps63
  go_wp2
  (try simp only [Exit.inBlock, Exit.then])
  have HB := Blk.new w 57 #[.int .i64 0, .int .i64 (-1)]
  refine bodyPost_ret (res_fine _ _ w.heap.size _ _ rfl HB) rfl ?_
  exact ⟨rfl, by go_grown⟩
end Go.Proofs.YtfkklcmepcocoaaGreatDoor

namespace Go.Proofs.YtfkklcmepcocoaaGreatDoor
open Go.RowKit
set_option linter.unusedVariables false

theorem coded2_any {es : Nat → Addr} {B : Nat} (v : Value) (n t c : Int) (w : World) (hS : Sents es B w) (hB : B ≤ w.heap.size) (hv : ErrIs es w v n t) :
    Calls Tryz.prog 21 #[v, .int .i64 c] w fun e w' => e = .returned (.bool (decide (n = c) && decide (t = -1))) ∧ Below w.heap.size w w' := by
  have hc := code_any v n t w hS hB hv
  clear hv hS
  by_cases h1 : n = c
  · by_cases h2 : t = -1
    · subst h1; subst h2
      have Hc := Lib.hid hc; clear hc
      go_enter Tryz.func21, Tryz.ntmps21
      go_wp2_with fail
      refine Hc.out.mono ?_
      rintro e w1 ⟨rfl, hb⟩
      have Hb := Lib.hid hb; clear hb
      go_wp2
      go_ret
      exact ⟨by simp, Hb.out⟩
    · subst h1
      have b2 : (t == -1) = false := by simp [h2]
      have Hc := Lib.hid hc; have H2 := Lib.hid h2; clear hc h2
      go_enter Tryz.func21, Tryz.ntmps21
      go_wp2_with fail
      refine Hc.out.mono ?_
      rintro e w1 ⟨rfl, hb⟩
      have Hb := Lib.hid hb; clear hb
      go_wp2
      go_ret
      exact ⟨by simp [H2.out], Hb.out⟩
  · have b1 : (n == c) = false := by simp [h1]
    have Hc := Lib.hid hc; have H1 := Lib.hid h1; clear hc h1
    go_enter Tryz.func21, Tryz.ntmps21
    go_wp2_with fail
    refine Hc.out.mono ?_
    rintro e w1 ⟨rfl, hb⟩
    have Hb := Lib.hid hb; clear hb
    go_wp2
    go_ret
    exact ⟨by simp [H1.out], Hb.out⟩
theorem faulted2_any {es : Nat → Addr} {B : Nat} (v : Value) (n t : Int) (c at_ : Int) (w : World) (hS : Sents es B w) (hB : B ≤ w.heap.size) (hv : ErrIs es w v n t) (hc : n = c) (ht : c = 0 ∨ t = at_) :
    Calls Tryz.prog 18 #[v, .agg #[.int .i64 c, .int .i64 at_]] w fun e w' => e = .returned (.bool true) ∧ Below w.heap.size w w' := by
  subst hc
  have hb1 : Below w.heap.size w (w.alloc (.cells #[.int .i64 n, .int .i64 at_] 57)) := by go_grown
  have hcd := code_any v n t _ (hS.below hb1 hB) (by simp; omega) (hv.below hb1 (Nat.le_refl _))
  have Hcd := Lib.hid hcd; have Hb1 := Lib.hid hb1
  have HK := Lib.hid (Blk.new w 57 #[.int .i64 n, .int .i64 at_])
  clear hcd hb1 hv hS
  by_cases h0 : n = 0
  · subst h0
    go_enter Tryz.func18, Tryz.ntmps18
    go_wp2_with fail
    refine Hcd.out.mono ?_
    rintro e w1 ⟨rfl, hb⟩
    have hk := HK.out.below hb (by simp)
    have z0 := hk.cell 0; have z1 := hk.cell 1
    simp only [List.getElem?_toArray, List.getElem?_cons_zero, List.getElem?_cons_succ] at z0 z1
    have Hb := Lib.hid (Below.call Hb1.out hb (by simp))
    clear hb hk
    go_wp2
    go_ret
    exact ⟨rfl, Hb.out⟩
  · obtain rfl : t = at_ := by omega
    have b0 : (n == 0) = false := by rw [beq_eq_false_iff_ne]; exact h0
    clear h0 ht
    go_enter Tryz.func18, Tryz.ntmps18
    go_wp2_with fail
    refine Hcd.out.mono ?_
    rintro e w1 ⟨rfl, hb⟩
    have hk := HK.out.below hb (by simp)
    have z0 := hk.cell 0; have z1 := hk.cell 1
    simp only [List.getElem?_toArray, List.getElem?_cons_zero, List.getElem?_cons_succ] at z0 z1
    have Hb := Lib.hid (Below.call Hb1.out hb (by simp))
    clear hb hk
    go_wp2
    go_ret
    exact ⟨rfl, Hb.out⟩
end Go.Proofs.YtfkklcmepcocoaaGreatDoor

namespace Go.Proofs.YtfkklcmepcocoaaGreatDoor
open Go.RowKit Go.ChangeShapes Go.WideShapes Go.Deep

section
variable {H : Type} {enc : TypeId × Value → H} {P : Program} {w : World} {base : Nat} {spare : Nat → Bool} {held : Bool}

/-- A slice, opened: its elements' cells lie one behind the other; each element has a reading of its own. -/
theorem open_rd {t e k fuel : Nat} {cs : List Value} {x : DataW H × List MemPlace} (ht : P.underlying t = some (.slice e)) (hC : P.cellsOf e = k) (hk : 0 < k) (h : DataW.trod enc P w base spare held fuel t cs = some x) :
    ∃ (A : Option Addr) (cap : Nat) (ys : List (List Value × DataW H)), cs = [.slice A ys.length cap] ∧ ys.length ≤ cap ∧ cap ≤ maxLen ∧
      (∀ y ∈ ys, y.1.length = k ∧ ∃ m ps, DataW.trod enc P w base spare held m e y.1 = some (y.2, ps)) ∧ Rd w w.heap.size k A ys.length (ys.flatMap (·.1)) ∧
      ((x.1 = .nil ∧ ys = []) ∨ ∃ sp, x.1 = .slice (ys.map (·.2)) sp) := by
  rcases open_slice ht h with ⟨rfl, rfl⟩ | ⟨a, len, cap, m, n, D, Pl, rfl, hb, hl, hm, hmm, rfl, hx⟩
  · exact ⟨none, 0, [], rfl, Nat.le_refl _, Nat.zero_le _, by simp, Rd.nil, .inl ⟨rfl, rfl⟩⟩
  · have hlm : len ≤ m := by rw [hmm]; split <;> omega
    obtain ⟨C, hCs⟩ := choose_lt (α := List Value) (p := fun i c => w.cells? base (a.add (i * P.cellsOf e)) (P.cellsOf e) = some c ∧ DataW.trod enc P w base spare held n e c = some (D i, Pl i)) (fun i hi => hx i (Nat.lt_of_lt_of_le hi hlm))
    have hlen : ((List.range len).map fun i => (C i, D i)).length = len := by simp
    refine ⟨some a, cap, (List.range len).map fun i => (C i, D i), by rw [hlen], by rw [hlen]; exact hl, hm, ?_, ?_, .inr ⟨_, by rw [List.map_map]; rfl⟩⟩
    · intro y hy
      obtain ⟨i, hi, rfl⟩ := List.mem_map.1 hy
      obtain ⟨h1, h2⟩ := hCs i (List.mem_range.1 hi)
      exact ⟨(World.cells?_some h1).2.1.trans hC, n, Pl i, h2⟩
    · have hf : ∀ i < len, (C i).length = k := fun i hi => (World.cells?_some (hCs i hi).1).2.1.trans hC
      rw [hlen]
      have key : ∀ i j, i < len → j < k → w.cell? (a.add (i * k + j)) = (C i)[j]? := by
        intro i j hi hj
        have := (World.cells?_some (hCs i hi).1).2.2 j (by rw [hC]; exact hj)
        rw [add_add, hC] at this
        exact this
      -- the j-th cell of the flat list
      have flat : ∀ (L : List Nat) (s : Nat), (∀ i, L[i]? = if i < L.length then some (s + i) else none) → s + L.length ≤ len → ∀ j u, (L.flatMap fun i => C i)[j]? = some u → w.cell? (a.add (s * k + j)) = some u := by
        intro L
        induction L with
        | nil => intro s _ _ j u hu; simp at hu
        | cons i L ih =>
          intro s hL hs j u hu
          have h0 := hL 0
          simp at h0
          subst h0
          simp only [List.length_cons] at hs
          have hik := hf i (by omega)
          by_cases hj : j < k
          · rw [List.flatMap_cons, List.getElem?_append_left (by omega)] at hu
            rw [key i j (by omega) hj]; exact hu
          · rw [List.flatMap_cons, List.getElem?_append_right (by omega), hik] at hu
            have := ih (i + 1) (fun q => by have := hL (q + 1); simpa [Nat.add_assoc, Nat.add_comm 1 q] using this) (by omega) (j - k) u hu
            rw [Nat.add_mul, Nat.one_mul] at this
            rw [← this]
            congr 2
            omega
      have hfl : ((List.range len).flatMap fun i => C i).length = len * k := by
        have : ∀ L : List Nat, (∀ i ∈ L, i < len) → (L.flatMap fun i => C i).length = L.length * k := by
          intro L
          induction L with
          | nil => intro _; simp
          | cons i L ih =>
            intro hL
            rw [List.flatMap_cons, List.length_append, hf i (hL i (by simp)), ih (fun q hq => hL q (by simp [hq])), List.length_cons, Nat.succ_mul]
            omega
        rw [this _ (fun i hi => List.mem_range.1 hi), List.length_range]
      have hmap : ((List.range len).map fun i => (C i, D i)).flatMap (·.1) = (List.range len).flatMap fun i => C i := by rw [List.flatMap_map]
      rw [hmap]
      refine ⟨hfl, fun hpos => ?_⟩
      have hr := flat (List.range len) 0 (fun i => by by_cases hi : i < len <;> simp [hi]) (by simp)
      have hc0 : ∃ u, w.cell? a = some u := by
        have h1 := key 0 0 hpos hk
        have h2 := hf 0 hpos
        rw [List.getElem?_eq_getElem (by omega)] at h1
        exact ⟨_, by simpa [Addr.add] using h1⟩
      obtain ⟨u0, hu0⟩ := hc0
      obtain ⟨b, o, spot⟩ := a
      have hspot : spot = none := by simpa using World.cell?_spot hu0
      subst hspot
      refine ⟨b, o, rfl, World.block_lt_of_cell? w _ hu0, fun j u hu => ?_⟩
      have := hr j u hu
      rw [Nat.zero_mul, Nat.zero_add, add_at] at this
      exact this
end

/-! ### The form's own bound -/
theorem all_append {p : Nat → Bool} {a b : List Nat} (h : (a ++ b).all p = true) : a.all p = true ∧ b.all p = true := by
  rw [List.all_append, Bool.and_eq_true] at h; exact h
theorem weights_slice {H : Type} {P : Program} {t e : TypeId} {es sp : List (DataW H)} (ht : P.underlying t = some (.slice e)) (h : (DataW.weights P t (.slice es sp)).all (· ≤ reachBytes) = true) :
    (es.length + sp.length) * P.bytesOf e ≤ reachBytes ∧ ∀ d ∈ es, (d.weights P e).all (· ≤ reachBytes) = true := by
  simp only [DataW.weights, ht, List.all_cons, Bool.and_eq_true] at h
  obtain ⟨h1, h2⟩ := h
  refine ⟨by simpa using h1, ?_⟩
  obtain ⟨h3, _⟩ := all_append h2
  clear h1 h2
  induction es with
  | nil => intro d hd; cases hd
  | cons d0 es ih =>
    simp only [DataW.weightsAll] at h3
    obtain ⟨h4, h5⟩ := all_append h3
    intro d hd
    rcases List.mem_cons.1 hd with rfl | hd
    · exact h4
    · exact ih h5 d hd
theorem weights_first {H : Type} {P : Program} {t : TypeId} {ts : List TypeId} {d : DataW H} {ds : List (DataW H)} (h : (DataW.weightsEach P (t :: ts) (d :: ds)).all (· ≤ reachBytes) = true) :
    (d.weights P t).all (· ≤ reachBytes) = true ∧ (DataW.weightsEach P ts ds).all (· ≤ reachBytes) = true := by
  simp only [DataW.weightsEach] at h
  exact all_append h
theorem weights_string {H : Type} {P : Program} {t : TypeId} {bytes : List UInt8} (h : (DataW.weights (H := H) P t (.lit (.string bytes))).all (· ≤ reachBytes) = true) : bytes.length ≤ reachBytes := by
  simpa [DataW.weights] using h
end Go.Proofs.YtfkklcmepcocoaaGreatDoor

namespace Go.Proofs.YtfkklcmepcocoaaGreatDoor
open Go.RowKit Go.ChangeShapes Go.WideShapes Go.ChangeAt
set_option linter.unusedVariables false

structure LAct where
  kd : Bs
  nm : Bs
  tick : Int
  bit : Nat
  n : Int
def lactL (a : LAct) : List Value := [.string (B8 a.kd), .string (B8 a.nm), .int .i64 a.tick, .int .u64 (a.bit : Int), .int .i64 a.n]
def lactC (l : List LAct) : List Value := l.flatMap lactL
def LOk (a : LAct) : Prop := a.bit < 18446744073709551616 ∧ -9223372036854775808 ≤ a.n ∧ a.n ≤ 9223372036854775807
theorem Rd.atL {w : World} {B n : Nat} {A : Option Addr} {ys : List LAct} (h : Rd w B 5 A n (lactC ys)) {k : Nat} (hk : k < n) :
    ∃ b o y, A = some ⟨b, o, none⟩ ∧ b < B ∧ ys[k]? = some y ∧ w.cell? ⟨b, o + k * 5, none⟩ = some (.string (B8 y.kd)) ∧ w.cell? ⟨b, o + k * 5 + 1, none⟩ = some (.string (B8 y.nm)) ∧ w.cell? ⟨b, o + k * 5 + 2, none⟩ = some (.int .i64 y.tick) ∧
      w.cell? ⟨b, o + k * 5 + 3, none⟩ = some (.int .u64 (y.bit : Int)) ∧ w.cell? ⟨b, o + k * 5 + 4, none⟩ = some (.int .i64 y.n) := by
  obtain ⟨b, o, e, hb, hc⟩ := h.2 (by omega)
  have hl : k < ys.length := by have := h.1; unfold lactC at this; rw [flat_len _ 5 (fun _ => rfl)] at this; omega
  have hy : ys[k]? = some ys[k] := List.getElem?_eq_getElem hl
  refine ⟨b, o, ys[k], e, hb, hy, ?_, ?_, ?_, ?_, ?_⟩
  · exact hc (k * 5) _ (flat_get lactL 5 (fun _ => rfl) ys k 0 ys[k] hy (by omega))
  · rw [Nat.add_assoc]; exact hc (k * 5 + 1) _ (flat_get lactL 5 (fun _ => rfl) ys k 1 ys[k] hy (by omega))
  · rw [Nat.add_assoc]; exact hc (k * 5 + 2) _ (flat_get lactL 5 (fun _ => rfl) ys k 2 ys[k] hy (by omega))
  · rw [Nat.add_assoc]; exact hc (k * 5 + 3) _ (flat_get lactL 5 (fun _ => rfl) ys k 3 ys[k] hy (by omega))
  · rw [Nat.add_assoc]; exact hc (k * 5 + 4) _ (flat_get lactL 5 (fun _ => rfl) ys k 4 ys[k] hy (by omega))
theorem cellsLAct : Tryz.prog.cellsOf 53 = 5 := by kernel_rfl
theorem cellsPt2 : Tryz.prog.cellsOf 51 = 2 := by kernel_rfl
theorem cellsI1 : Tryz.prog.cellsOf 3 = 1 := by kernel_rfl
theorem cellsU1 : Tryz.prog.cellsOf 49 = 1 := by kernel_rfl
theorem cellsS1 : Tryz.prog.cellsOf 9 = 1 := by kernel_rfl
theorem bytesLAct : Tryz.prog.bytesOf 53 = 56 := by kernel_rfl
section
variable {H : Type} {enc : TypeId × Value → H} {w : World} {base : Nat} {spare : Nat → Bool} {held : Bool}
theorem trod2s {P : Program} {t : TypeId} {f0 f1 : Field} {fuel : Nat} {cs : List Value} {x : DataW H × List MemPlace} (ht : P.underlying t = some (.struct #[f0, f1])) (h : DataW.trod enc P w base spare held fuel t cs = some x) :
    ∃ y0 y1 n, cs.length = P.cellsOf t ∧ DataW.trod enc P w base spare held n f0.type ((cs.drop f0.offset).take (P.cellsOf f0.type)) = some y0 ∧
      DataW.trod enc P w base spare held n f1.type ((cs.drop f1.offset).take (P.cellsOf f1.type)) = some y1 := by
  obtain ⟨xs, n, _, rfl, hl, hlen, hf⟩ := DataW.trod_struct ht h
  match xs, hlen with
  | [y0, y1], _ => exact ⟨y0, y1, n, hl, by simpa using hf 0 f0 rfl, by simpa using hf 1 f1 rfl⟩
theorem trod4 {P : Program} {t : TypeId} {f0 f1 f2 f3 : Field} {fuel : Nat} {cs : List Value} {x : DataW H × List MemPlace} (ht : P.underlying t = some (.struct #[f0, f1, f2, f3])) (h : DataW.trod enc P w base spare held fuel t cs = some x) :
    ∃ y0 y1 y2 y3 n, cs.length = P.cellsOf t ∧ DataW.trod enc P w base spare held n f0.type ((cs.drop f0.offset).take (P.cellsOf f0.type)) = some y0 ∧
      DataW.trod enc P w base spare held n f1.type ((cs.drop f1.offset).take (P.cellsOf f1.type)) = some y1 ∧ DataW.trod enc P w base spare held n f2.type ((cs.drop f2.offset).take (P.cellsOf f2.type)) = some y2 ∧
      DataW.trod enc P w base spare held n f3.type ((cs.drop f3.offset).take (P.cellsOf f3.type)) = some y3 := by
  obtain ⟨xs, n, _, rfl, hl, hlen, hf⟩ := DataW.trod_struct ht h
  match xs, hlen with
  | [y0, y1, y2, y3], _ => exact ⟨y0, y1, y2, y3, n, hl, by simpa using hf 0 f0 rfl, by simpa using hf 1 f1 rfl, by simpa using hf 2 f2 rfl, by simpa using hf 3 f3 rfl⟩
theorem i64_of_wf {n : Int} (h : (Lit.int IntKind.i64 n).wf) : -9223372036854775808 ≤ n ∧ n ≤ 9223372036854775807 := by
  simpa [Lit.wf, IntKind.min, IntKind.max, IntKind.signed, IntKind.bits] using h
set_option maxRecDepth 100000 in
theorem open_lact {fuel : Nat} {cs : List Value} {x : DataW H × List MemPlace} (h : DataW.trod enc Tryz.prog w base spare held fuel 53 cs = some x) :
    ∃ a : LAct, cs = lactL a ∧ LOk a := by
  obtain ⟨y0, y1, y2, y3, n, hl, h0, h1, h2, h3⟩ := trod4 Tryz.underlying53 h
  rw [cellsLAct] at hl
  match cs, hl with
  | [c0, c1, c2, c3, c4], _ =>
    simp only [cellsS1, cellsPt2, cellsI1, List.drop_zero, List.take_succ_cons, List.take_zero, List.drop_succ_cons] at h0 h1 h2 h3
    obtain ⟨a, e0, _, _⟩ := DataW.trod_string Tryz.underlying9 h0
    obtain ⟨b, e1, _, _⟩ := DataW.trod_string Tryz.underlying9 h1
    obtain ⟨z0, z1, m, _, g0, g1⟩ := trod2s Tryz.underlying51 h2
    simp only [cellsI1, cellsU1, List.drop_zero, List.take_succ_cons, List.take_zero, List.drop_succ_cons] at g0 g1
    obtain ⟨c, e2, _, _⟩ := DataW.trod_int Tryz.underlying3 g0
    obtain ⟨d, e3, _, wd⟩ := DataW.trod_int Tryz.underlying49 g1
    obtain ⟨f, e4, _, wf⟩ := DataW.trod_int Tryz.underlying3 h3
    simp only [List.cons.injEq, and_true] at e0 e1 e2 e3 e4
    subst e0; subst e1; subst e2; subst e3; subst e4
    obtain ⟨la, rfl⟩ := b8_of a
    obtain ⟨lb, rfl⟩ := b8_of b
    have hd : 0 ≤ d ∧ d ≤ 18446744073709551615 := by simpa [Lit.wf, IntKind.min, IntKind.max, IntKind.signed, IntKind.bits] using wd
    obtain ⟨m, rfl⟩ : ∃ m : Nat, d = (m : Int) := ⟨d.toNat, by omega⟩
    exact ⟨⟨la, lb, c, m, f⟩, rfl, by dsimp only; omega, i64_of_wf wf⟩
set_option maxRecDepth 100000 in
theorem open_lacts {fuel : Nat} {cs : List Value} {x : DataW H × List MemPlace} (h : DataW.trod enc Tryz.prog w base spare held fuel 42 cs = some x)
    (hw : (x.1.weights Tryz.prog 42).all (· ≤ reachBytes) = true) :
    ∃ (A : Option Addr) (n c : Nat) (ps : List LAct), cs = [.slice A n c] ∧ n ≤ 140737488351232 ∧ n ≤ c ∧ c ≤ maxLen ∧ Rd w w.heap.size 5 A n (lactC ps) ∧ ∀ a ∈ ps, LOk a := by
  obtain ⟨A, cap, ys, rfl, hc, hm, hys, hrd, hx⟩ := open_rd Tryz.underlying42 cellsLAct (by omega) h
  have hpts : ∃ ps : List LAct, ys.map (·.1) = ps.map lactL ∧ ∀ a ∈ ps, LOk a := by
    clear hx hrd hc h hw
    induction ys with
    | nil => exact ⟨[], rfl, by simp⟩
    | cons y ys ih =>
      obtain ⟨ps, e, hps⟩ := ih (fun z hz => hys z (by simp [hz]))
      obtain ⟨_, m, q, hq⟩ := hys y (by simp)
      obtain ⟨p, hp, hpw⟩ := open_lact hq
      exact ⟨p :: ps, by simp [hp, e], by intro z hz; rcases List.mem_cons.1 hz with rfl | hz; exact hpw; exact hps z hz⟩
  obtain ⟨ps, e, hps⟩ := hpts
  refine ⟨A, ys.length, cap, ps, rfl, ?_, hc, hm, ?_, hps⟩
  · rcases hx with ⟨_, rfl⟩ | ⟨sp, hx⟩
    · simp
    · rw [hx] at hw
      have := (weights_slice Tryz.underlying42 hw).1
      rw [bytesLAct] at this
      simp only [List.length_map, reachBytes] at this
      omega
  · have : ys.flatMap (·.1) = lactC ps := by
      unfold lactC
      rw [List.flatMap_def, List.flatMap_def, e]
    rw [← this]; exact hrd
end
end Go.Proofs.YtfkklcmepcocoaaGreatDoor
