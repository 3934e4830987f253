/- From an argument's reading as data to what a walk wants: a slice of whatever elements as 'Rd', its elements' own readings, and the form's own bound on what is read. -/
import Derived.Test.YtlpkmghhmpkddaaDoorBase
import Derived.ProofKit
import Derived.SizedLaws
import Derived.Deep.Slices
namespace Go.Proofs.YtlpkmghhmpkddaaDoor
open Go.RowKit Go.ChangeShapes Go.WideShapes Go.Deep

section
variable {H : Type} {enc : TypeId × Value → H} {P : Program} {w : World} {base : Nat} {spare : Nat → Bool} {held : Bool}

/-- A slice, opened: its elements' cells lie one behind the other; each element has a reading of its own. -/
theorem open_rd {t e k fuel : Nat} {cs : List Value} {x : DataW H × List MemPlace} (ht : P.underlying t = some (.slice e)) (hC : P.cellsOf e = k) (hk : 0 < k) (h : DataW.trod enc P w base spare held fuel t cs = some x) :
    ∃ (A : Option Addr) (cap : Nat) (ys : List (List Value × DataW H)), cs = [.slice A ys.length cap] ∧ ys.length ≤ cap ∧ cap ≤ maxLen ∧
      (∀ y ∈ ys, y.1.length = k ∧ ∃ m ps, DataW.trod enc P w base spare held m e y.1 = some (y.2, ps)) ∧ Rd w w.heap.size k A ys.length (ys.flatMap (·.1)) ∧
      ((x.1 = .nil ∧ ys = []) ∨ ∃ sp, x.1 = .slice (ys.map (·.2)) sp) := by
  rcases open_slice ht h with ⟨rfl, rfl⟩ | ⟨a, len, cap, m, n, D, Pl, rfl, hb, hl, hm, hmm, rfl, hx⟩
  · exact ⟨none, 0, [], rfl, Nat.le_refl _, Nat.zero_le _, by simp, Rd.nil, .inl ⟨rfl, rfl⟩⟩
  · have hlm : len ≤ m := by rw [hmm]; split <;> omega
    obtain ⟨C, hCs⟩ := choose_lt (α := List Value) (p := fun i c => w.cells? base (a.add (i * P.cellsOf e)) (P.cellsOf e) = some c ∧ DataW.trod enc P w base spare held n e c = some (D i, Pl i)) (fun i hi => hx i (Nat.lt_of_lt_of_le hi hlm))
    have hlen : ((List.range len).map fun i => (C i, D i)).length = len := by simp
    refine ⟨some a, cap, (List.range len).map fun i => (C i, D i), by rw [hlen], by rw [hlen]; exact hl, hm, ?_, ?_, .inr ⟨_, by rw [List.map_map]; rfl⟩⟩
    · intro y hy
      obtain ⟨i, hi, rfl⟩ := List.mem_map.1 hy
      obtain ⟨h1, h2⟩ := hCs i (List.mem_range.1 hi)
      exact ⟨(World.cells?_some h1).2.1.trans hC, n, Pl i, h2⟩
    · have hf : ∀ i < len, (C i).length = k := fun i hi => (World.cells?_some (hCs i hi).1).2.1.trans hC
      rw [hlen]
      have key : ∀ i j, i < len → j < k → w.cell? (a.add (i * k + j)) = (C i)[j]? := by
        intro i j hi hj
        have := (World.cells?_some (hCs i hi).1).2.2 j (by rw [hC]; exact hj)
        rw [add_add, hC] at this
        exact this
      -- the j-th cell of the flat list
      have flat : ∀ (L : List Nat) (s : Nat), (∀ i, L[i]? = if i < L.length then some (s + i) else none) → s + L.length ≤ len → ∀ j u, (L.flatMap fun i => C i)[j]? = some u → w.cell? (a.add (s * k + j)) = some u := by
        intro L
        induction L with
        | nil => intro s _ _ j u hu; simp at hu
        | cons i L ih =>
          intro s hL hs j u hu
          have h0 := hL 0
          simp at h0
          subst h0
          simp only [List.length_cons] at hs
          have hik := hf i (by omega)
          by_cases hj : j < k
          · rw [List.flatMap_cons, List.getElem?_append_left (by omega)] at hu
            rw [key i j (by omega) hj]; exact hu
          · rw [List.flatMap_cons, List.getElem?_append_right (by omega), hik] at hu
            have := ih (i + 1) (fun q => by have := hL (q + 1); simpa [Nat.add_assoc, Nat.add_comm 1 q] using this) (by omega) (j - k) u hu
            rw [Nat.add_mul, Nat.one_mul] at this
            rw [← this]
            congr 2
            omega
      have hfl : ((List.range len).flatMap fun i => C i).length = len * k := by
        have : ∀ L : List Nat, (∀ i ∈ L, i < len) → (L.flatMap fun i => C i).length = L.length * k := by
          intro L
          induction L with
          | nil => intro _; simp
          | cons i L ih =>
            intro hL
            rw [List.flatMap_cons, List.length_append, hf i (hL i (by simp)), ih (fun q hq => hL q (by simp [hq])), List.length_cons, Nat.succ_mul]
            omega
        rw [this _ (fun i hi => List.mem_range.1 hi), List.length_range]
      have hmap : ((List.range len).map fun i => (C i, D i)).flatMap (·.1) = (List.range len).flatMap fun i => C i := by rw [List.flatMap_map]
      rw [hmap]
      refine ⟨hfl, fun hpos => ?_⟩
      have hr := flat (List.range len) 0 (fun i => by by_cases hi : i < len <;> simp [hi]) (by simp)
      have hc0 : ∃ u, w.cell? a = some u := by
        have h1 := key 0 0 hpos hk
        have h2 := hf 0 hpos
        rw [List.getElem?_eq_getElem (by omega)] at h1
        exact ⟨_, by simpa [Addr.add] using h1⟩
      obtain ⟨u0, hu0⟩ := hc0
      obtain ⟨b, o, spot⟩ := a
      have hspot : spot = none := by simpa using World.cell?_spot hu0
      subst hspot
      refine ⟨b, o, rfl, World.block_lt_of_cell? w _ hu0, fun j u hu => ?_⟩
      have := hr j u hu
      rw [Nat.zero_mul, Nat.zero_add, add_at] at this
      exact this
end

/-! ### The form's own bound -/
theorem all_append {p : Nat → Bool} {a b : List Nat} (h : (a ++ b).all p = true) : a.all p = true ∧ b.all p = true := by
  rw [List.all_append, Bool.and_eq_true] at h; exact h
theorem weights_slice {H : Type} {P : Program} {t e : TypeId} {es sp : List (DataW H)} (ht : P.underlying t = some (.slice e)) (h : (DataW.weights P t (.slice es sp)).all (· ≤ reachBytes) = true) :
    (es.length + sp.length) * P.bytesOf e ≤ reachBytes ∧ ∀ d ∈ es, (d.weights P e).all (· ≤ reachBytes) = true := by
  simp only [DataW.weights, ht, List.all_cons, Bool.and_eq_true] at h
  obtain ⟨h1, h2⟩ := h
  refine ⟨by simpa using h1, ?_⟩
  obtain ⟨h3, _⟩ := all_append h2
  clear h1 h2
  induction es with
  | nil => intro d hd; cases hd
  | cons d0 es ih =>
    simp only [DataW.weightsAll] at h3
    obtain ⟨h4, h5⟩ := all_append h3
    intro d hd
    rcases List.mem_cons.1 hd with rfl | hd
    · exact h4
    · exact ih h5 d hd
theorem weights_first {H : Type} {P : Program} {t : TypeId} {ts : List TypeId} {d : DataW H} {ds : List (DataW H)} (h : (DataW.weightsEach P (t :: ts) (d :: ds)).all (· ≤ reachBytes) = true) :
    (d.weights P t).all (· ≤ reachBytes) = true ∧ (DataW.weightsEach P ts ds).all (· ≤ reachBytes) = true := by
  simp only [DataW.weightsEach] at h
  exact all_append h
theorem weights_string {H : Type} {P : Program} {t : TypeId} {bytes : List UInt8} (h : (DataW.weights (H := H) P t (.lit (.string bytes))).all (· ≤ reachBytes) = true) : bytes.length ≤ reachBytes := by
  simpa [DataW.weights] using h
end Go.Proofs.YtlpkmghhmpkddaaDoor
