/- From an argument's reading as data to what a walk wants: a slice of whatever elements as 'Rd', its elements' own readings, and the form's own bound on what is read. -/
import Derived.Test.YtpbgonpmpjpljaaGreatDoorBaseX
import Derived.ProofKit
import Derived.SizedLaws
import Derived.Deep.Slices
import Derived.Test.YtpbgonpmpjpljaaGreatDoorMkmX
import Derived.Lib.SmallJoins
namespace Go.Proofs.YtpbgonpmpjpljaaGreatDoor
open Go.RowKit Go.ChangeShapes Go.WideShapes Go.Deep

section
variable {H : Type} {enc : TypeId × Value → H} {P : Program} {w : World} {base : Nat} {spare : Nat → Bool} {held : Bool}

/-- A slice, opened: its elements' cells lie one behind the other; each element has a reading of its own. -/
theorem open_rd {t e k fuel : Nat} {cs : List Value} {x : DataW H × List MemPlace} (ht : P.underlying t = some (.slice e)) (hC : P.cellsOf e = k) (hk : 0 < k) (h : DataW.trod enc P w base spare held fuel t cs = some x) :
    ∃ (A : Option Addr) (cap : Nat) (ys : List (List Value × DataW H)), cs = [.slice A ys.length cap] ∧ ys.length ≤ cap ∧ cap ≤ maxLen ∧
      (∀ y ∈ ys, y.1.length = k ∧ ∃ m ps, DataW.trod enc P w base spare held m e y.1 = some (y.2, ps)) ∧ Rd w w.heap.size k A ys.length (ys.flatMap (·.1)) ∧
      ((x.1 = .nil ∧ ys = []) ∨ ∃ sp, x.1 = .slice (ys.map (·.2)) sp) := by
  rcases open_slice ht h with ⟨rfl, rfl⟩ | ⟨a, len, cap, m, n, D, Pl, rfl, hb, hl, hm, hmm, rfl, hx⟩
  · exact ⟨none, 0, [], rfl, Nat.le_refl _, Nat.zero_le _, by simp, Rd.nil, .inl ⟨rfl, rfl⟩⟩
  · have hlm : len ≤ m := by rw [hmm]; split <;> omega
    obtain ⟨C, hCs⟩ := choose_lt (α := List Value) (p := fun i c => w.cells? base (a.add (i * P.cellsOf e)) (P.cellsOf e) = some c ∧ DataW.trod enc P w base spare held n e c = some (D i, Pl i)) (fun i hi => hx i (Nat.lt_of_lt_of_le hi hlm))
    have hlen : ((List.range len).map fun i => (C i, D i)).length = len := by simp
    refine ⟨some a, cap, (List.range len).map fun i => (C i, D i), by rw [hlen], by rw [hlen]; exact hl, hm, ?_, ?_, .inr ⟨_, by rw [List.map_map]; rfl⟩⟩
    · intro y hy
      obtain ⟨i, hi, rfl⟩ := List.mem_map.1 hy
      obtain ⟨h1, h2⟩ := hCs i (List.mem_range.1 hi)
      exact ⟨(World.cells?_some h1).2.1.trans hC, n, Pl i, h2⟩
    · have hf : ∀ i < len, (C i).length = k := fun i hi => (World.cells?_some (hCs i hi).1).2.1.trans hC
      rw [hlen]
      have key : ∀ i j, i < len → j < k → w.cell? (a.add (i * k + j)) = (C i)[j]? := by
        intro i j hi hj
        have := (World.cells?_some (hCs i hi).1).2.2 j (by rw [hC]; exact hj)
        rw [add_add, hC] at this
        exact this
      -- the j-th cell of the flat list
      have flat : ∀ (L : List Nat) (s : Nat), (∀ i, L[i]? = if i < L.length then some (s + i) else none) → s + L.length ≤ len → ∀ j u, (L.flatMap fun i => C i)[j]? = some u → w.cell? (a.add (s * k + j)) = some u := by
        intro L
        induction L with
        | nil => intro s _ _ j u hu; simp at hu
        | cons i L ih =>
          intro s hL hs j u hu
          have h0 := hL 0
          simp at h0
          subst h0
          simp only [List.length_cons] at hs
          have hik := hf i (by omega)
          by_cases hj : j < k
          · rw [List.flatMap_cons, List.getElem?_append_left (by omega)] at hu
            rw [key i j (by omega) hj]; exact hu
          · rw [List.flatMap_cons, List.getElem?_append_right (by omega), hik] at hu
            have := ih (i + 1) (fun q => by have := hL (q + 1); simpa [Nat.add_assoc, Nat.add_comm 1 q] using this) (by omega) (j - k) u hu
            rw [Nat.add_mul, Nat.one_mul] at this
            rw [← this]
            congr 2
            omega
      have hfl : ((List.range len).flatMap fun i => C i).length = len * k := by
        have : ∀ L : List Nat, (∀ i ∈ L, i < len) → (L.flatMap fun i => C i).length = L.length * k := by
          intro L
          induction L with
          | nil => intro _; simp
          | cons i L ih =>
            intro hL
            rw [List.flatMap_cons, List.length_append, hf i (hL i (by simp)), ih (fun q hq => hL q (by simp [hq])), List.length_cons, Nat.succ_mul]
            omega
        rw [this _ (fun i hi => List.mem_range.1 hi), List.length_range]
      have hmap : ((List.range len).map fun i => (C i, D i)).flatMap (·.1) = (List.range len).flatMap fun i => C i := by rw [List.flatMap_map]
      rw [hmap]
      refine ⟨hfl, fun hpos => ?_⟩
      have hr := flat (List.range len) 0 (fun i => by by_cases hi : i < len <;> simp [hi]) (by simp)
      have hc0 : ∃ u, w.cell? a = some u := by
        have h1 := key 0 0 hpos hk
        have h2 := hf 0 hpos
        rw [List.getElem?_eq_getElem (by omega)] at h1
        exact ⟨_, by simpa [Addr.add] using h1⟩
      obtain ⟨u0, hu0⟩ := hc0
      obtain ⟨b, o, spot⟩ := a
      have hspot : spot = none := by simpa using World.cell?_spot hu0
      subst hspot
      refine ⟨b, o, rfl, World.block_lt_of_cell? w _ hu0, fun j u hu => ?_⟩
      have := hr j u hu
      rw [Nat.zero_mul, Nat.zero_add, add_at] at this
      exact this
end

/-! ### The form's own bound -/
theorem all_append {p : Nat → Bool} {a b : List Nat} (h : (a ++ b).all p = true) : a.all p = true ∧ b.all p = true := by
  rw [List.all_append, Bool.and_eq_true] at h; exact h
theorem weights_slice {H : Type} {P : Program} {t e : TypeId} {es sp : List (DataW H)} (ht : P.underlying t = some (.slice e)) (h : (DataW.weights P t (.slice es sp)).all (· ≤ reachBytes) = true) :
    (es.length + sp.length) * P.bytesOf e ≤ reachBytes ∧ ∀ d ∈ es, (d.weights P e).all (· ≤ reachBytes) = true := by
  simp only [DataW.weights, ht, List.all_cons, Bool.and_eq_true] at h
  obtain ⟨h1, h2⟩ := h
  refine ⟨by simpa using h1, ?_⟩
  obtain ⟨h3, _⟩ := all_append h2
  clear h1 h2
  induction es with
  | nil => intro d hd; cases hd
  | cons d0 es ih =>
    simp only [DataW.weightsAll] at h3
    obtain ⟨h4, h5⟩ := all_append h3
    intro d hd
    rcases List.mem_cons.1 hd with rfl | hd
    · exact h4
    · exact ih h5 d hd
theorem weights_first {H : Type} {P : Program} {t : TypeId} {ts : List TypeId} {d : DataW H} {ds : List (DataW H)} (h : (DataW.weightsEach P (t :: ts) (d :: ds)).all (· ≤ reachBytes) = true) :
    (d.weights P t).all (· ≤ reachBytes) = true ∧ (DataW.weightsEach P ts ds).all (· ≤ reachBytes) = true := by
  simp only [DataW.weightsEach] at h
  exact all_append h
theorem weights_string {H : Type} {P : Program} {t : TypeId} {bytes : List UInt8} (h : (DataW.weights (H := H) P t (.lit (.string bytes))).all (· ≤ reachBytes) = true) : bytes.length ≤ reachBytes := by
  simpa [DataW.weights] using h
end Go.Proofs.YtpbgonpmpjpljaaGreatDoor

namespace Go.Proofs.YtpbgonpmpjpljaaGreatDoor
open Go.RowKit Go.ChangeShapes Go.WideShapes Go.ChangeAt
set_option linter.unusedVariables false

theorem cellsOStr : Tryz.prog.cellsOf 9 = 1 := by kernel_rfl
theorem cellsOSs : Tryz.prog.cellsOf 22 = 1 := by kernel_rfl
theorem cellsOInt : Tryz.prog.cellsOf 3 = 1 := by kernel_rfl
theorem cellsOBlk : Tryz.prog.cellsOf 24 = 4 := by kernel_rfl
theorem bytesOStr : Tryz.prog.bytesOf 9 = 16 := by kernel_rfl
theorem b8_ofO (s : ByteArray) : ∃ l, s = B8 l ∧ l.length = s.size := ⟨s.data.toList, rfl, by simp⟩
theorem bytes_ofO (s : ByteArray) : ∃ l, s = bytesOf l ∧ ∀ b ∈ l, b < 256 := by
  refine ⟨s.data.toList.map (·.toNat), ?_, fun b hb => ?_⟩
  · obtain ⟨⟨l⟩⟩ := s
    show _ = B8 ((l.map (·.toNat)).map UInt8.ofNat)
    rw [List.map_map, show l.map (UInt8.ofNat ∘ fun x => x.toNat) = l by simp [Function.comp_def]]
    rfl
  · obtain ⟨u, _, rfl⟩ := List.mem_map.1 hb
    exact u.toNat_lt
section
variable {H : Type} {enc : TypeId × Value → H} {w : World} {base : Nat} {spare : Nat → Bool} {held : Bool}
set_option maxRecDepth 100000 in
/-- A slice of texts, opened. -/
theorem open_texts {fuel : Nat} {cs : List Value} {x : DataW H × List MemPlace} (h : DataW.trod enc Tryz.prog w base spare held fuel 22 cs = some x)
    (hw : (x.1.weights Tryz.prog 22).all (· ≤ reachBytes) = true) :
    ∃ (A : Option Addr) (n c : Nat) (ss : List ByteArray), cs = [.slice A n c] ∧ n ≤ 140737488351232 ∧ Rd w w.heap.size 1 A n (ss.map Value.string) ∧ ∀ s ∈ ss, s.size ≤ 140737488351232 := by
  obtain ⟨A, cap, ys, rfl, hc, hm, hys, hrd, hx⟩ := open_rd Tryz.underlying22 cellsOStr (by omega) h
  have hyw : ∀ y ∈ ys, (y.2.weights Tryz.prog 9).all (· ≤ reachBytes) = true := by
    rcases hx with ⟨_, rfl⟩ | ⟨sp, hx⟩
    · simp
    · rw [hx] at hw
      intro y hy
      exact (weights_slice Tryz.underlying22 hw).2 y.2 (List.mem_map_of_mem hy)
  have hss : ∃ ss : List ByteArray, ys.map (·.1) = ss.map (fun s => [Value.string s]) ∧ ∀ s ∈ ss, s.size ≤ 140737488351232 := by
    clear hx hrd hc hw h
    induction ys with
    | nil => exact ⟨[], rfl, by simp⟩
    | cons y ys ih =>
      obtain ⟨ss, e, hss⟩ := ih (fun z hz => hys z (by simp [hz])) (fun z hz => hyw z (by simp [hz]))
      obtain ⟨_, m, q, hq⟩ := hys y (by simp)
      have hy0 := hyw y (by simp)
      obtain ⟨yc, yd⟩ := y
      dsimp only at hq hy0
      obtain ⟨s, e0, e1, _⟩ := DataW.trod_string Tryz.underlying9 hq
      refine ⟨s :: ss, by simp [e0, e], fun z hz => ?_⟩
      rcases List.mem_cons.1 hz with rfl | hz
      · simp only [Prod.mk.injEq] at e1
        rw [e1.1] at hy0
        have := weights_string hy0
        simp [reachBytes] at this
        omega
      · exact hss z hz
  obtain ⟨ss, e, hss⟩ := hss
  refine ⟨A, ys.length, cap, ss, rfl, ?_, ?_, hss⟩
  · rcases hx with ⟨_, rfl⟩ | ⟨sp, hx⟩
    · simp
    · rw [hx] at hw
      have := (weights_slice Tryz.underlying22 hw).1
      rw [bytesOStr] at this
      simp only [List.length_map, reachBytes] at this
      omega
  · have : ys.flatMap (·.1) = ss.map Value.string := by
      rw [List.flatMap_def, e]
      clear e hss
      induction ss with
      | nil => rfl
      | cons r ls ih => simp [ih]
    rw [← this]; exact hrd
theorem names_ofO : ∀ (ss : List ByteArray), ∃ N : List Bs, ss.map Value.string = N.map (fun s => .string (B8 s))
  | [] => ⟨[], rfl⟩
  | s :: ss => by
    obtain ⟨N, e⟩ := names_ofO ss
    obtain ⟨l, rfl, _⟩ := b8_ofO s
    exact ⟨l :: N, by rw [List.map_cons, List.map_cons, e]⟩
theorem chunks_ofO : ∀ (ss : List ByteArray), (∀ s ∈ ss, s.size ≤ 140737488351232) → ∃ K : List (List Nat), ss.map Value.string = K.map (fun x => .string (bytesOf x)) ∧ ∀ x ∈ K, x.length ≤ 140737488351232 ∧ ∀ b ∈ x, b < 256
  | [], _ => ⟨[], rfl, fun x hx => by cases hx⟩
  | s :: ss, h => by
    obtain ⟨K, e, hK⟩ := chunks_ofO ss (fun z hz => h z (List.mem_cons_of_mem _ hz))
    have hs := h s List.mem_cons_self
    obtain ⟨l, rfl, hl⟩ := bytes_ofO s
    refine ⟨l :: K, by rw [List.map_cons, List.map_cons, e], fun x hx => ?_⟩
    rcases List.mem_cons.1 hx with rfl | hx
    · rw [bytesOf_size] at hs
      exact ⟨hs, hl⟩
    · exact hK x hx
theorem agg_of {cs : Array Value} {l : List Value} (h : (Value.agg cs).cells.toList = l) : cs = l.toArray := by
  obtain ⟨l'⟩ := cs
  subst h
  rfl
/-- A block as an argument: names and chunks of any bytes. -/
structure BlkIn (w : World) (cs : List Value) (fr sp : Int) (A C : Option Addr) (n c m d : Nat) (N : List Bs) (K : List (List Nat)) : Prop where
  cs : cs = [.int .i64 fr, .int .i64 sp, .slice A n c, .slice C m d]
  a : Rd w w.heap.size 1 A n (N.map fun s => .string (B8 s))
  k : Rd w w.heap.size 1 C m (K.map fun z => .string (bytesOf z))
  hn : n ≤ 140737488351232
  hm : m ≤ 140737488351232
  kl : ∀ z ∈ K, z.length ≤ 140737488351232 ∧ ∀ b ∈ z, b < 256
set_option maxRecDepth 100000 in
theorem open_block {fuel : Nat} {cs : List Value} {x : DataW H × List MemPlace} (h : DataW.trod enc Tryz.prog w base spare held fuel 24 cs = some x)
    (hw : (x.1.weights Tryz.prog 24).all (· ≤ reachBytes) = true) :
    ∃ (fr sp : Int) (A C : Option Addr) (n c m d : Nat) (N : List Bs) (K : List (List Nat)), BlkIn w cs fr sp A C n c m d N K := by
  obtain ⟨y0, y1, y2, y3, k, rfl, hl, h0, h1, h2, h3⟩ := Joins.trod_struct4 Tryz.underlying24 h
  have hwe : (DataW.weightsEach Tryz.prog [3, 3, 22, 22] [y0.1, y1.1, y2.1, y3.1]).all (· ≤ reachBytes) = true := by
    simpa [DataW.weights, Tryz.underlying24] using hw
  have hw2 := (weights_first (weights_first (weights_first hwe).2).2)
  have hw3 := weights_first hw2.2
  rw [cellsOBlk] at hl
  match cs, hl with
  | [c0, c1, c2, c3], _ =>
    simp only [cellsOInt, cellsOSs, List.drop_zero, List.take_succ_cons, List.take_zero, List.drop_succ_cons] at h0 h1 h2 h3
    obtain ⟨fr, e0, _, _⟩ := DataW.trod_int Tryz.underlying3 h0
    obtain ⟨sp, e1, _, _⟩ := DataW.trod_int Tryz.underlying3 h1
    obtain ⟨A, n, c, ss, e2, hn, hr, _⟩ := open_texts h2 hw2.1
    obtain ⟨C, m, d, tt, e3, hm, hr2, hk⟩ := open_texts h3 hw3.1
    simp only [List.cons.injEq, and_true] at e0 e1 e2 e3
    subst e0; subst e1; subst e2; subst e3
    obtain ⟨N, eN⟩ := names_ofO ss
    obtain ⟨K, eK, hK⟩ := chunks_ofO tt hk
    rw [eN] at hr
    rw [eK] at hr2
    exact ⟨fr, sp, A, C, n, c, m, d, N, K, rfl, hr, hr2, hn, hm, hK⟩
end
end Go.Proofs.YtpbgonpmpjpljaaGreatDoor
