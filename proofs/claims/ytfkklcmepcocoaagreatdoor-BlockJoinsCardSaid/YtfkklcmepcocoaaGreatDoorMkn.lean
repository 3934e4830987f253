/- From an argument's reading as data to what a walk wants: a slice of whatever elements as 'Rd', its elements' own readings, and the form's own bound on what is read. -/
import Derived.Test.YtfkklcmepcocoaaGreatDoorBase
import Derived.ProofKit
import Derived.SizedLaws
import Derived.Deep.Slices
import Derived.Test.YtfkklcmepcocoaaGreatDoorMkf
namespace Go.Proofs.YtfkklcmepcocoaaGreatDoor
open Go.RowKit Go.ChangeShapes Go.WideShapes Go.Deep

section
variable {H : Type} {enc : TypeId × Value → H} {P : Program} {w : World} {base : Nat} {spare : Nat → Bool} {held : Bool}

/-- A slice, opened: its elements' cells lie one behind the other; each element has a reading of its own. -/
theorem open_rd {t e k fuel : Nat} {cs : List Value} {x : DataW H × List MemPlace} (ht : P.underlying t = some (.slice e)) (hC : P.cellsOf e = k) (hk : 0 < k) (h : DataW.trod enc P w base spare held fuel t cs = some x) :
    ∃ (A : Option Addr) (cap : Nat) (ys : List (List Value × DataW H)), cs = [.slice A ys.length cap] ∧ ys.length ≤ cap ∧ cap ≤ maxLen ∧
      (∀ y ∈ ys, y.1.length = k ∧ ∃ m ps, DataW.trod enc P w base spare held m e y.1 = some (y.2, ps)) ∧ Rd w w.heap.size k A ys.length (ys.flatMap (·.1)) ∧
      ((x.1 = .nil ∧ ys = []) ∨ ∃ sp, x.1 = .slice (ys.map (·.2)) sp) := by
  rcases open_slice ht h with ⟨rfl, rfl⟩ | ⟨a, len, cap, m, n, D, Pl, rfl, hb, hl, hm, hmm, rfl, hx⟩
  · exact ⟨none, 0, [], rfl, Nat.le_refl _, Nat.zero_le _, by simp, Rd.nil, .inl ⟨rfl, rfl⟩⟩
  · have hlm : len ≤ m := by rw [hmm]; split <;> omega
    obtain ⟨C, hCs⟩ := choose_lt (α := List Value) (p := fun i c => w.cells? base (a.add (i * P.cellsOf e)) (P.cellsOf e) = some c ∧ DataW.trod enc P w base spare held n e c = some (D i, Pl i)) (fun i hi => hx i (Nat.lt_of_lt_of_le hi hlm))
    have hlen : ((List.range len).map fun i => (C i, D i)).length = len := by simp
    refine ⟨some a, cap, (List.range len).map fun i => (C i, D i), by rw [hlen], by rw [hlen]; exact hl, hm, ?_, ?_, .inr ⟨_, by rw [List.map_map]; rfl⟩⟩
    · intro y hy
      obtain ⟨i, hi, rfl⟩ := List.mem_map.1 hy
      obtain ⟨h1, h2⟩ := hCs i (List.mem_range.1 hi)
      exact ⟨(World.cells?_some h1).2.1.trans hC, n, Pl i, h2⟩
    · have hf : ∀ i < len, (C i).length = k := fun i hi => (World.cells?_some (hCs i hi).1).2.1.trans hC
      rw [hlen]
      have key : ∀ i j, i < len → j < k → w.cell? (a.add (i * k + j)) = (C i)[j]? := by
        intro i j hi hj
        have := (World.cells?_some (hCs i hi).1).2.2 j (by rw [hC]; exact hj)
        rw [add_add, hC] at this
        exact this
      -- the j-th cell of the flat list
      have flat : ∀ (L : List Nat) (s : Nat), (∀ i, L[i]? = if i < L.length then some (s + i) else none) → s + L.length ≤ len → ∀ j u, (L.flatMap fun i => C i)[j]? = some u → w.cell? (a.add (s * k + j)) = some u := by
        intro L
        induction L with
        | nil => intro s _ _ j u hu; simp at hu
        | cons i L ih =>
          intro s hL hs j u hu
          have h0 := hL 0
          simp at h0
          subst h0
          simp only [List.length_cons] at hs
          have hik := hf i (by omega)
          by_cases hj : j < k
          · rw [List.flatMap_cons, List.getElem?_append_left (by omega)] at hu
            rw [key i j (by omega) hj]; exact hu
          · rw [List.flatMap_cons, List.getElem?_append_right (by omega), hik] at hu
            have := ih (i + 1) (fun q => by have := hL (q + 1); simpa [Nat.add_assoc, Nat.add_comm 1 q] using this) (by omega) (j - k) u hu
            rw [Nat.add_mul, Nat.one_mul] at this
            rw [← this]
            congr 2
            omega
      have hfl : ((List.range len).flatMap fun i => C i).length = len * k := by
        have : ∀ L : List Nat, (∀ i ∈ L, i < len) → (L.flatMap fun i => C i).length = L.length * k := by
          intro L
          induction L with
          | nil => intro _; simp
          | cons i L ih =>
            intro hL
            rw [List.flatMap_cons, List.length_append, hf i (hL i (by simp)), ih (fun q hq => hL q (by simp [hq])), List.length_cons, Nat.succ_mul]
            omega
        rw [this _ (fun i hi => List.mem_range.1 hi), List.length_range]
      have hmap : ((List.range len).map fun i => (C i, D i)).flatMap (·.1) = (List.range len).flatMap fun i => C i := by rw [List.flatMap_map]
      rw [hmap]
      refine ⟨hfl, fun hpos => ?_⟩
      have hr := flat (List.range len) 0 (fun i => by by_cases hi : i < len <;> simp [hi]) (by simp)
      have hc0 : ∃ u, w.cell? a = some u := by
        have h1 := key 0 0 hpos hk
        have h2 := hf 0 hpos
        rw [List.getElem?_eq_getElem (by omega)] at h1
        exact ⟨_, by simpa [Addr.add] using h1⟩
      obtain ⟨u0, hu0⟩ := hc0
      obtain ⟨b, o, spot⟩ := a
      have hspot : spot = none := by simpa using World.cell?_spot hu0
      subst hspot
      refine ⟨b, o, rfl, World.block_lt_of_cell? w _ hu0, fun j u hu => ?_⟩
      have := hr j u hu
      rw [Nat.zero_mul, Nat.zero_add, add_at] at this
      exact this
end

/-! ### The form's own bound -/
theorem all_append {p : Nat → Bool} {a b : List Nat} (h : (a ++ b).all p = true) : a.all p = true ∧ b.all p = true := by
  rw [List.all_append, Bool.and_eq_true] at h; exact h
theorem weights_slice {H : Type} {P : Program} {t e : TypeId} {es sp : List (DataW H)} (ht : P.underlying t = some (.slice e)) (h : (DataW.weights P t (.slice es sp)).all (· ≤ reachBytes) = true) :
    (es.length + sp.length) * P.bytesOf e ≤ reachBytes ∧ ∀ d ∈ es, (d.weights P e).all (· ≤ reachBytes) = true := by
  simp only [DataW.weights, ht, List.all_cons, Bool.and_eq_true] at h
  obtain ⟨h1, h2⟩ := h
  refine ⟨by simpa using h1, ?_⟩
  obtain ⟨h3, _⟩ := all_append h2
  clear h1 h2
  induction es with
  | nil => intro d hd; cases hd
  | cons d0 es ih =>
    simp only [DataW.weightsAll] at h3
    obtain ⟨h4, h5⟩ := all_append h3
    intro d hd
    rcases List.mem_cons.1 hd with rfl | hd
    · exact h4
    · exact ih h5 d hd
theorem weights_first {H : Type} {P : Program} {t : TypeId} {ts : List TypeId} {d : DataW H} {ds : List (DataW H)} (h : (DataW.weightsEach P (t :: ts) (d :: ds)).all (· ≤ reachBytes) = true) :
    (d.weights P t).all (· ≤ reachBytes) = true ∧ (DataW.weightsEach P ts ds).all (· ≤ reachBytes) = true := by
  simp only [DataW.weightsEach] at h
  exact all_append h
theorem weights_string {H : Type} {P : Program} {t : TypeId} {bytes : List UInt8} (h : (DataW.weights (H := H) P t (.lit (.string bytes))).all (· ≤ reachBytes) = true) : bytes.length ≤ reachBytes := by
  simpa [DataW.weights] using h
end Go.Proofs.YtfkklcmepcocoaaGreatDoor

namespace Go.Proofs.YtfkklcmepcocoaaGreatDoor
open Go.RowKit Go.ChangeShapes Go.WideShapes Go.ChangeAt
set_option linter.unusedVariables false

def WordV (b : Int) : Prop := 0 ≤ b ∧ b < 18446744073709551616
/-- A row as it lies in memory: its text, its slice, and the points that this reads as. -/
structure RowD where
  s : ByteArray
  A : Option Addr
  n : Nat
  c : Nat
  ps : List (Int × Int)

def RowsIn (w : World) (B : Nat) (A : Option Addr) (n : Nat) (rs : List RowD) : Prop :=
  Rd w B 2 A n (rs.flatMap fun r => [.string r.s, .slice r.A r.n r.c]) ∧ ∀ r ∈ rs, Rd w B 2 r.A r.n (r.ps.flatMap fun p => [.int .i64 p.1, .int .u64 p.2])
theorem RowsIn.len {w : World} {B n : Nat} {A : Option Addr} {rs : List RowD} (h : RowsIn w B A n rs) : rs.length = n := by
  have := h.1.1; rw [flat_len _ 2 (fun _ => rfl)] at this; omega
theorem RowsIn.plen {w : World} {B n : Nat} {A : Option Addr} {rs : List RowD} (h : RowsIn w B A n rs) {r : RowD} (hr : r ∈ rs) : r.ps.length = r.n := by
  have := (h.2 r hr).1; rw [flat_len _ 2 (fun _ => rfl)] at this; omega

theorem cellsPoint : Tryz.prog.cellsOf 51 = 2 := by kernel_rfl
theorem cellsRow : Tryz.prog.cellsOf 37 = 2 := by kernel_rfl
theorem cellsPs : Tryz.prog.cellsOf 33 = 1 := by kernel_rfl
theorem cellsStr : Tryz.prog.cellsOf 9 = 1 := by kernel_rfl
theorem cellsInt : Tryz.prog.cellsOf 3 = 1 := by kernel_rfl
theorem cellsU64 : Tryz.prog.cellsOf 49 = 1 := by kernel_rfl
theorem bytesPoint : Tryz.prog.bytesOf 51 = 16 := by kernel_rfl
theorem bytesRow : 16 ≤ Tryz.prog.bytesOf 37 := by
  have : Tryz.prog.bytesOf 37 = 40 := by kernel_rfl
  omega

section
variable {H : Type} {enc : TypeId × Value → H} {w : World} {base : Nat} {spare : Nat → Bool} {held : Bool}
set_option maxRecDepth 100000 in
/-- A point's two cells. -/
theorem open_point {fuel : Nat} {cs : List Value} {x : DataW H × List MemPlace} (h : DataW.trod enc Tryz.prog w base spare held fuel 51 cs = some x) :
    ∃ p : Int × Int, cs = [.int .i64 p.1, .int .u64 p.2] ∧ WordV p.2 := by
  obtain ⟨y0, y1, n, rfl, hl, h0, h1⟩ := trod_struct2 Tryz.underlying51 h
  rw [cellsPoint] at hl
  match cs, hl with
  | [c0, c1], _ =>
    simp only [cellsInt, cellsU64, List.drop_zero, List.take_succ_cons, List.take_zero, List.drop_succ_cons] at h0 h1
    obtain ⟨a, e0, _, _⟩ := DataW.trod_int Tryz.underlying3 h0
    obtain ⟨b, e1, _, wb⟩ := DataW.trod_int Tryz.underlying49 h1
    simp only [List.cons.injEq, and_true] at e0 e1
    subst e0; subst e1
    refine ⟨(a, b), rfl, ?_⟩
    have : 0 ≤ b ∧ b ≤ 18446744073709551615 := by simpa [Lit.wf, IntKind.min, IntKind.max, IntKind.signed, IntKind.bits] using wb
    exact ⟨this.1, by dsimp only; omega⟩
set_option maxRecDepth 100000 in
/-- A slice of points, opened. -/
theorem open_points {fuel : Nat} {cs : List Value} {x : DataW H × List MemPlace} (h : DataW.trod enc Tryz.prog w base spare held fuel 33 cs = some x)
    (hw : (x.1.weights Tryz.prog 33).all (· ≤ reachBytes) = true) :
    ∃ (A : Option Addr) (n c : Nat) (ps : List (Int × Int)), cs = [.slice A n c] ∧ n ≤ 140737488351232 ∧ n ≤ c ∧ c ≤ maxLen ∧ Rd w w.heap.size 2 A n (ps.flatMap fun p => [.int .i64 p.1, .int .u64 p.2]) ∧ ∀ p ∈ ps, WordV p.2 := by
  obtain ⟨A, cap, ys, rfl, hc, hm, hys, hrd, hx⟩ := open_rd Tryz.underlying33 cellsPoint (by omega) h
  have hpts : ∃ ps : List (Int × Int), ys.map (·.1) = ps.map (fun p => [Value.int .i64 p.1, Value.int .u64 p.2]) ∧ ∀ p ∈ ps, WordV p.2 := by
    clear hx hrd hc h hw
    induction ys with
    | nil => exact ⟨[], rfl, by simp⟩
    | cons y ys ih =>
      obtain ⟨ps, e, hps⟩ := ih (fun z hz => hys z (by simp [hz]))
      obtain ⟨_, m, q, hq⟩ := hys y (by simp)
      obtain ⟨p, hp, hpw⟩ := open_point hq
      exact ⟨p :: ps, by simp [hp, e], by intro z hz; rcases List.mem_cons.1 hz with rfl | hz; exact hpw; exact hps z hz⟩
  obtain ⟨ps, e, hps⟩ := hpts
  refine ⟨A, ys.length, cap, ps, rfl, ?_, hc, hm, ?_, hps⟩
  · rcases hx with ⟨_, rfl⟩ | ⟨sp, hx⟩
    · simp
    · rw [hx] at hw
      have := (weights_slice Tryz.underlying33 hw).1
      rw [bytesPoint] at this
      simp only [List.length_map, reachBytes] at this
      omega
  · have : ys.flatMap (·.1) = ps.flatMap (fun p => [Value.int .i64 p.1, Value.int .u64 p.2]) := by
      rw [List.flatMap_def, List.flatMap_def, e]
    rw [← this]; exact hrd
set_option maxRecDepth 100000 in
/-- A slice of rows, opened. -/
theorem open_rows {fuel : Nat} {cs : List Value} {x : DataW H × List MemPlace} (h : DataW.trod enc Tryz.prog w base spare held fuel 22 cs = some x)
    (hw : (x.1.weights Tryz.prog 22).all (· ≤ reachBytes) = true) :
    ∃ (A : Option Addr) (n c : Nat) (rs : List RowD), cs = [.slice A n c] ∧ n ≤ 140737488351232 ∧ RowsIn w w.heap.size A n rs ∧ (∀ r ∈ rs, r.n ≤ 140737488351232) ∧ ∀ r ∈ rs, ∀ p ∈ r.ps, WordV p.2 := by
  obtain ⟨A, cap, ys, rfl, hc, hm, hys, hrd, hx⟩ := open_rd Tryz.underlying22 cellsRow (by omega) h
  have hyw : ∀ y ∈ ys, (y.2.weights Tryz.prog 37).all (· ≤ reachBytes) = true := by
    rcases hx with ⟨_, rfl⟩ | ⟨sp, hx⟩
    · simp
    · rw [hx] at hw
      intro y hy
      exact (weights_slice Tryz.underlying22 hw).2 y.2 (List.mem_map_of_mem hy)
  have hrows : ∃ rs : List RowD, ys.map (·.1) = rs.map (fun r => [Value.string r.s, Value.slice r.A r.n r.c]) ∧ (∀ r ∈ rs, Rd w w.heap.size 2 r.A r.n (r.ps.flatMap fun p => [.int .i64 p.1, .int .u64 p.2])) ∧ (∀ r ∈ rs, r.n ≤ 140737488351232) ∧ ∀ r ∈ rs, ∀ p ∈ r.ps, WordV p.2 := by
    clear hx hrd hc hw h
    induction ys with
    | nil => exact ⟨[], rfl, by simp, by simp, by simp⟩
    | cons y ys ih =>
      obtain ⟨rs, e, i1, i2, i3⟩ := ih (fun z hz => hys z (by simp [hz])) (fun z hz => hyw z (by simp [hz]))
      obtain ⟨hl, m, q, hq⟩ := hys y (by simp)
      have hyw0 := hyw y (by simp)
      obtain ⟨yc, yd⟩ := y
      dsimp only at hl hq hyw0
      obtain ⟨y0, y1, k, hd, hl', h0, h1⟩ := trod_struct2 Tryz.underlying37 hq
      simp only [Prod.mk.injEq] at hd
      obtain ⟨rfl, _⟩ := hd
      match yc, hl with
      | [c0, c1], _ =>
        simp only [cellsStr, cellsPs, List.drop_zero, List.take_succ_cons, List.take_zero, List.drop_succ_cons] at h0 h1
        obtain ⟨s, e0, _, _⟩ := DataW.trod_string Tryz.underlying9 h0
        have hw1 : (y1.1.weights Tryz.prog 33).all (· ≤ reachBytes) = true := by
          have h2 : (DataW.weightsEach Tryz.prog [9, 33] [y0.1, y1.1]).all (· ≤ reachBytes) = true := by
            simpa [DataW.weights, Tryz.underlying37] using hyw0
          exact (weights_first (weights_first h2).2).1
        obtain ⟨A', n', c', ps, e1, hn', _, _, hr', hp'⟩ := open_points h1 hw1
        simp only [List.cons.injEq, and_true] at e0 e1
        subst e0; subst e1
        refine ⟨⟨s, A', n', c', ps⟩ :: rs, by simp [e], ?_, ?_, ?_⟩
        · intro r hr; rcases List.mem_cons.1 hr with rfl | hr; exact hr'; exact i1 r hr
        · intro r hr; rcases List.mem_cons.1 hr with rfl | hr; exact hn'; exact i2 r hr
        · intro r hr; rcases List.mem_cons.1 hr with rfl | hr; exact hp'; exact i3 r hr
  obtain ⟨rs, e, i1, i2, i3⟩ := hrows
  refine ⟨A, ys.length, cap, rs, rfl, ?_, ⟨?_, i1⟩, i2, i3⟩
  · rcases hx with ⟨_, rfl⟩ | ⟨sp, hx⟩
    · simp
    · rw [hx] at hw
      have h1 := (weights_slice Tryz.underlying22 hw).1
      have h2 := Nat.mul_le_mul_left ((ys.map (·.2)).length + sp.length) bytesRow
      simp only [List.length_map, reachBytes] at h1 h2
      omega
  · have : ys.flatMap (·.1) = rs.flatMap (fun r => [Value.string r.s, Value.slice r.A r.n r.c]) := by
      rw [List.flatMap_def, List.flatMap_def, e]
    rw [← this]; exact hrd
end
/-- Rows, opened: names and points. -/
theorem open_rowsV {H : Type} {enc : TypeId × Value → H} {w : World} {base : Nat} {spare : Nat → Bool} {held : Bool} {fuel : Nat} {cs : List Value} {x : DataW H × List MemPlace} (h : DataW.trod enc Tryz.prog w base spare held fuel 22 cs = some x)
    (hw : (x.1.weights Tryz.prog 22).all (· ≤ reachBytes) = true) :
    ∃ (A : Option Addr) (n c : Nat) (rows : List RowV), cs = [.slice A n c] ∧ n ≤ 140737488351232 ∧ (∀ r ∈ rows, r.pts.length ≤ 140737488351232) ∧ True ∧ RowsRd w w.heap.size A n rows ∧ ∀ r ∈ rows, ∀ p ∈ r.pts, WordV p.2 := by
  obtain ⟨A, n, c, rs, e, hn, hin, hl, hp⟩ := open_rows h hw
  refine ⟨A, n, c, rs.map fun r => ⟨r.s.data.toList, r.ps, .slice r.A r.n r.c⟩, e, hn, ?_, trivial, ⟨?_, ?_⟩, ?_⟩
  · intro r hr
    obtain ⟨d, hd, rfl⟩ := List.mem_map.1 hr
    show d.ps.length ≤ _
    rw [hin.plen hd]; exact hl d hd
  · have : rowC (rs.map fun r => ⟨r.s.data.toList, r.ps, .slice r.A r.n r.c⟩) = rs.flatMap fun r => [.string r.s, .slice r.A r.n r.c] := by
      unfold rowC
      rw [List.flatMap_map]
      rfl
    rw [this]
    exact hin.1
  · intro r hr
    obtain ⟨d, hd, rfl⟩ := List.mem_map.1 hr
    have := hin.plen hd
    exact ⟨d.A, d.c, by show Value.slice d.A d.n d.c = .slice d.A d.ps.length d.c; rw [this], by show Rd w w.heap.size 2 d.A d.ps.length _; rw [this]; exact hin.2 d hd⟩
  · intro r hr
    obtain ⟨d, hd, rfl⟩ := List.mem_map.1 hr
    exact hp d hd
end Go.Proofs.YtfkklcmepcocoaaGreatDoor
