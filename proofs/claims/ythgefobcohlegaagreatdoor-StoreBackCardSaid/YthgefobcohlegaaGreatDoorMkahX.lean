/- StoreBack, plain: what is selected of a store with no blocks; how many points it has. -/
import Derived.Test.YthgefobcohlegaaGreatDoorStSelQX
import Derived.Test.YthgefobcohlegaaGreatDoorMkagX
import Derived.Test.YthgefobcohlegaaGreatDoorMkpX
import Derived.Test.YthgefobcohlegaaGreatDoorMkfX
import Derived.Deep.RegionHeld3
import Derived.Test.YthgefobcohlegaaGreatDoorBaseX
import Derived.ProofKit
import Derived.SizedLaws
import Derived.Deep.Slices
import Derived.Test.YthgefobcohlegaaGreatDoorMkxX
import Derived.Test.YthgefobcohlegaaGreatDoorMkqX
import Derived.Test.YthgefobcohlegaaGreatDoorMkabX
namespace Go.Proofs.YthgefobcohlegaaGreatDoor
open Go.RowKit Go.Sort
set_option linter.unusedVariables false

theorem onceN_id : ∀ {l : List Bs}, l.Nodup → onceN l = l
  | [], _ => rfl
  | a :: l, h => by
    obtain ⟨h1, h2⟩ := List.nodup_cons.1 h
    unfold onceN
    rw [onceN_id h2, if_neg (by rw [List.contains_iff_mem]; exact h1)]
theorem srtN_id {l : List Bs} (h : l.Pairwise (· < ·)) : srtN (l.map fun s => (s, [])) = l := by
  unfold srtN
  rw [List.map_map]
  have e : l.map ((Prod.fst : Rw → Bs) ∘ fun s => (s, [])) = l := List.map_id _
  rw [e, onceN_id (h.imp fun {a b} hab e => by subst e; exact lt_irrefl_bs _ hab)]
  refine List.mergeSort_of_pairwise (h.imp fun {a b} hab => ?_)
  simp only [leB, decide_eq_true_eq]
  exact List.le_of_lt hab
theorem hSeries_rise {A : List HA} (h : hSrt A) : (hSeries A).Pairwise (· < ·) := by
  unfold hSeries
  rw [List.pairwise_map]
  exact List.Pairwise.sublist List.filter_sublist h
theorem sel_head {S : StM} (hB : S.B = []) (hs : hSrt S.A) (hO : ∀ x ∈ S.A, ∀ p ∈ x.2.1, 0 ≤ p.1 ∧ p.1 ≤ 1099511627776) :
    selR S 0 1099511627776 = (S.A.filter fun x => decide (x.2.1 ≠ [])).map fun x => (x.1, x.2.1) := by
  unfold selR
  have hn : namesS S = hSeries S.A := by
    unfold namesS
    rw [hB]
    simp only [List.flatMap_nil, List.append_nil]
    exact srtN_id (hSeries_rise hs)
  rw [hn]
  unfold hSeries
  rw [List.map_map]
  have e : ∀ x ∈ S.A.filter (fun x => decide (x.2.1 ≠ [])), ((fun s => (s, ptsS S s 0 1099511627776)) ∘ fun x : HA => x.1) x = (x.1, x.2.1) := fun x hx => by
    obtain ⟨h1, _⟩ := List.mem_filter.1 hx
    show (x.1, ptsS S x.1 0 1099511627776) = _
    unfold ptsS
    rw [hB]
    show (x.1, mergeP [] (hPoints S.A x.1 0 1099511627776)) = _
    unfold hPoints
    rw [hFind_of_mem hs h1]
    dsimp only
    rw [betL_id (hO x h1), mergeP]
  rw [List.map_congr_left e]
  refine List.filter_eq_self.2 fun r hr => ?_
  obtain ⟨x, hx, rfl⟩ := List.mem_map.1 hr
  exact (List.mem_filter.1 hx).2
theorem sel_count {S : StM} (hB : S.B = []) (hs : hSrt S.A) (hO : ∀ x ∈ S.A, ∀ p ∈ x.2.1, 0 ≤ p.1 ∧ p.1 ≤ 1099511627776) :
    ((selR S 0 1099511627776).map fun r => r.2.length).sum = hCount S.A := by
  rw [sel_head hB hs hO, List.map_map, count_series]
  rfl
/-- What selecting leans on. -/
theorem selM_same {S T : StM} (hA : T.A = S.A) (hB : T.B = S.B) (ms : List Mt) (f t : Int) : selM T ms f t = selM S ms f t := by
  have hn : namesS T = namesS S := by unfold namesS; rw [hA, hB]
  have hp : ∀ s, ptsS T s f t = ptsS S s f t := fun s => by unfold ptsS; rw [hA, hB]
  unfold selM selL
  rw [hn]
  simp only [hp]
/-- A store made anew of the same head. -/
theorem KInv.again {Q : Prop} {S T : StM} {E : List (Bs × (Int × Int))} (h : KInv Q S E) (hA : T.A = S.A) (hB : T.B = []) (hsp : 1 ≤ T.sp ∧ T.sp ≤ 100000) : KInv False T [] :=
  ⟨hsp, by rw [hA]; exact h.srt, by rw [hA]; exact h.inv, by rw [hA]; exact h.n60, by rw [hA]; exact h.nm, by rw [hA]; exact h.vl, by rw [hB]; exact fun x h => (by cases h), by rw [hB]; exact List.Pairwise.nil, by rw [hB]; exact fun x h => (by cases h), fun hq => hq.elim⟩
theorem KInv.tk {Q : Prop} {S : StM} {E : List (Bs × (Int × Int))} (h : KInv Q S E) : ∀ x ∈ S.A, ∀ p ∈ x.2.1, 0 ≤ p.1 ∧ p.1 ≤ 1099511627776 := fun x hx p hp => by
  have h1 := (h.vl x hx p hp).1
  have h2 := ((h.inv x hx).2 p hp).2
  simp [tickB] at h2
  exact ⟨h1, h2.2⟩
end Go.Proofs.YthgefobcohlegaaGreatDoor

namespace Go.Proofs.YthgefobcohlegaaGreatDoor
open Go.RowKit
set_option linter.unusedVariables false

set_option maxRecDepth 100000 in
set_option maxHeartbeats 4000000 in
theorem sameRows_eq (A : Option Addr) (n c : Nat) (A' : Option Addr) (c' : Nat) (la lb : List RowV) (w : World) (hA : RowsRd w w.heap.size A n la) (hB : RowsRd w w.heap.size A' n lb) (he : la.map rowP2 = lb.map rowP2) (hn : n ≤ 100000) (hp : ∀ r ∈ la, r.pts.length ≤ 100000) :
    Calls Tryz.prog 12 #[.slice A n c, .slice A' n c'] w fun e w' => e = .returned (.bool true) ∧ Below w.heap.size w w' := by
  have HA := Lib.hid (fun W (hb : Below w.heap.size w W) => hA.below hb (Nat.le_refl _))
  have HB := Lib.hid (fun W (hb : Below w.heap.size w W) => hB.below hb (Nat.le_refl _))
  have He := Lib.hid he; have Hp := Lib.hid hp
  clear hA hB he hp
  go_enter Tryz.func12, Tryz.ntmps12
  go_wp2
  go_loopw [5] (fun iv wr => ∃ k : Nat, k ≤ n ∧ iv = .int .i64 k ∧ Below w.heap.size w wr) (fun iv _ => n - (intOf iv).toNat)
  case atStart => exact ⟨0, Nat.zero_le _, rfl, Below.refl _ _⟩
  case round =>
    obtain ⟨k, hk, rfl, hb⟩ := hrel
    have HBr := Lib.hid hb
    by_cases hkn : k < n
    · have hkn' : (k : Int) < n := by omega
      obtain ⟨b0, o0, r, hA0, had0, hr, x0, x1⟩ := (HA.out _ hb).1.at2 hkn
      obtain ⟨b1, o1, r', hA1, had1, hr', y0, y1⟩ := (HB.out _ hb).1.at2 hkn
      subst hA0
      subst hA1
      have e := congrArg (fun l => l[k]?) He.out
      rw [List.getElem?_map, List.getElem?_map, hr, hr'] at e
      have e := Option.some.inj e
      have e1 : r.nm = r'.nm := congrArg Prod.fst e
      have e2 : r.pts = r'.pts := congrArg Prod.snd e
      obtain ⟨Ap, cp, hrv, hrp⟩ := (HA.out _ hb).2 r (List.mem_of_getElem? hr)
      obtain ⟨Aq, cq, hqv, hqp⟩ := (HB.out _ hb).2 r' (List.mem_of_getElem? hr')
      rw [← e2] at hqv hqp
      rw [← e1] at y0
      rw [hrv] at x1
      rw [hqv] at y1
      have hl := Hp.out r (List.mem_of_getElem? hr)
      have Hsp := Lib.hid (fun W (hb' : Below wr.heap.size wr W) => samePoints_eq Ap r.pts.length cp Aq cq r.pts W (((hrp.more hb.size).below hb').more hb'.size) (((hqp.more hb.size).below hb').more hb'.size) hl)
      have hd0 : b0 < wr.heap.size := Nat.lt_of_lt_of_le had0 hb.size
      have hd1 : b1 < wr.heap.size := Nat.lt_of_lt_of_le had1 hb.size
      obtain ⟨pl, hpl⟩ : ∃ pl, pl = r.pts.length := ⟨_, rfl⟩
      rw [← hpl] at x1 y1 Hsp
      generalize B8 r.nm = sn at x0 y0
      have Hac := Lib.hid (fun W (hb' : Below wr.heap.size wr W) => show (W.cell? ⟨b0, o0 + k * 2, none⟩ = some (.string sn) ∧ W.cell? ⟨b0, o0 + k * 2 + 1, none⟩ = some (.slice Ap pl cp)) ∧ W.cell? ⟨b1, o1 + k * 2, none⟩ = some (.string sn) ∧ W.cell? ⟨b1, o1 + k * 2 + 1, none⟩ = some (.slice Aq pl cq) from
        ⟨⟨(hb'.cell (p := ⟨b0, o0 + k * 2, none⟩) hd0).trans x0, (hb'.cell (p := ⟨b0, o0 + k * 2 + 1, none⟩) hd0).trans x1⟩, (hb'.cell (p := ⟨b1, o1 + k * 2, none⟩) hd1).trans y0, (hb'.cell (p := ⟨b1, o1 + k * 2 + 1, none⟩) hd1).trans y1⟩)
      have HD := Lib.hid (show Below wr.heap.size wr wr.drew from (Below.refl _ _).drew)
      clear hb hr hr' e e1 e2 hrv hrp hqv hqp hl hpl x0 x1 y0 y1
      go_wp2
      go_region_held3 (fun w' => (w'.cell? ⟨b0, o0 + k * 2, none⟩ = some (.string sn) ∧ w'.cell? ⟨b0, o0 + k * 2 + 1, none⟩ = some (.slice Ap pl cp)) ∧ w'.cell? ⟨b1, o1 + k * 2, none⟩ = some (.string sn) ∧ w'.cell? ⟨b1, o1 + k * 2 + 1, none⟩ = some (.slice Aq pl cq))
        (first | with_reducible exact Hac.out _ HD.out | with_reducible exact Hac.out _ HB5.out | exact Hac.out _ HD.out)
        (first | (go_at_call 17; (with_reducible refine (Hsp.out _ HD.out).mono ?_); rintro e5 w5 ⟨rfl, hb5⟩; have HB5 := Lib.hid (show Below wr.heap.size wr w5 from Below.call HD.out hb5 HD.out.size); clear hb5))
      all_goals
        go_wp2
        go_roundw
        case rel => exact ⟨k + 1, by omega, by go_num, Below.call HBr.out HB5.out HBr.out.size⟩
        case measure => simp [intOf]; omega
    · obtain rfl : k = n := by omega
      have hkn' : ¬ (k : Int) < k := by omega
      clear hb
      go_wp2
      go_ret
      exact ⟨rfl, HBr.out⟩
end Go.Proofs.YthgefobcohlegaaGreatDoor

namespace Go.Proofs.YthgefobcohlegaaGreatDoor
open Go.RowKit Go.ChangeShapes Go.WideShapes Go.Deep

section
variable {H : Type} {enc : TypeId × Value → H} {P : Program} {w : World} {base : Nat} {spare : Nat → Bool} {held : Bool}

/-- A slice, opened: its elements' cells lie one behind the other; each element has a reading of its own. -/
theorem open_rd {t e k fuel : Nat} {cs : List Value} {x : DataW H × List MemPlace} (ht : P.underlying t = some (.slice e)) (hC : P.cellsOf e = k) (hk : 0 < k) (h : DataW.trod enc P w base spare held fuel t cs = some x) :
    ∃ (A : Option Addr) (cap : Nat) (ys : List (List Value × DataW H)), cs = [.slice A ys.length cap] ∧ ys.length ≤ cap ∧ cap ≤ maxLen ∧
      (∀ y ∈ ys, y.1.length = k ∧ ∃ m ps, DataW.trod enc P w base spare held m e y.1 = some (y.2, ps)) ∧ Rd w w.heap.size k A ys.length (ys.flatMap (·.1)) ∧
      ((x.1 = .nil ∧ ys = []) ∨ ∃ sp, x.1 = .slice (ys.map (·.2)) sp) := by
  rcases open_slice ht h with ⟨rfl, rfl⟩ | ⟨a, len, cap, m, n, D, Pl, rfl, hb, hl, hm, hmm, rfl, hx⟩
  · exact ⟨none, 0, [], rfl, Nat.le_refl _, Nat.zero_le _, by simp, Rd.nil, .inl ⟨rfl, rfl⟩⟩
  · have hlm : len ≤ m := by rw [hmm]; split <;> omega
    obtain ⟨C, hCs⟩ := choose_lt (α := List Value) (p := fun i c => w.cells? base (a.add (i * P.cellsOf e)) (P.cellsOf e) = some c ∧ DataW.trod enc P w base spare held n e c = some (D i, Pl i)) (fun i hi => hx i (Nat.lt_of_lt_of_le hi hlm))
    have hlen : ((List.range len).map fun i => (C i, D i)).length = len := by simp
    refine ⟨some a, cap, (List.range len).map fun i => (C i, D i), by rw [hlen], by rw [hlen]; exact hl, hm, ?_, ?_, .inr ⟨_, by rw [List.map_map]; rfl⟩⟩
    · intro y hy
      obtain ⟨i, hi, rfl⟩ := List.mem_map.1 hy
      obtain ⟨h1, h2⟩ := hCs i (List.mem_range.1 hi)
      exact ⟨(World.cells?_some h1).2.1.trans hC, n, Pl i, h2⟩
    · have hf : ∀ i < len, (C i).length = k := fun i hi => (World.cells?_some (hCs i hi).1).2.1.trans hC
      rw [hlen]
      have key : ∀ i j, i < len → j < k → w.cell? (a.add (i * k + j)) = (C i)[j]? := by
        intro i j hi hj
        have := (World.cells?_some (hCs i hi).1).2.2 j (by rw [hC]; exact hj)
        rw [add_add, hC] at this
        exact this
      -- the j-th cell of the flat list
      have flat : ∀ (L : List Nat) (s : Nat), (∀ i, L[i]? = if i < L.length then some (s + i) else none) → s + L.length ≤ len → ∀ j u, (L.flatMap fun i => C i)[j]? = some u → w.cell? (a.add (s * k + j)) = some u := by
        intro L
        induction L with
        | nil => intro s _ _ j u hu; simp at hu
        | cons i L ih =>
          intro s hL hs j u hu
          have h0 := hL 0
          simp at h0
          subst h0
          simp only [List.length_cons] at hs
          have hik := hf i (by omega)
          by_cases hj : j < k
          · rw [List.flatMap_cons, List.getElem?_append_left (by omega)] at hu
            rw [key i j (by omega) hj]; exact hu
          · rw [List.flatMap_cons, List.getElem?_append_right (by omega), hik] at hu
            have := ih (i + 1) (fun q => by have := hL (q + 1); simpa [Nat.add_assoc, Nat.add_comm 1 q] using this) (by omega) (j - k) u hu
            rw [Nat.add_mul, Nat.one_mul] at this
            rw [← this]
            congr 2
            omega
      have hfl : ((List.range len).flatMap fun i => C i).length = len * k := by
        have : ∀ L : List Nat, (∀ i ∈ L, i < len) → (L.flatMap fun i => C i).length = L.length * k := by
          intro L
          induction L with
          | nil => intro _; simp
          | cons i L ih =>
            intro hL
            rw [List.flatMap_cons, List.length_append, hf i (hL i (by simp)), ih (fun q hq => hL q (by simp [hq])), List.length_cons, Nat.succ_mul]
            omega
        rw [this _ (fun i hi => List.mem_range.1 hi), List.length_range]
      have hmap : ((List.range len).map fun i => (C i, D i)).flatMap (·.1) = (List.range len).flatMap fun i => C i := by rw [List.flatMap_map]
      rw [hmap]
      refine ⟨hfl, fun hpos => ?_⟩
      have hr := flat (List.range len) 0 (fun i => by by_cases hi : i < len <;> simp [hi]) (by simp)
      have hc0 : ∃ u, w.cell? a = some u := by
        have h1 := key 0 0 hpos hk
        have h2 := hf 0 hpos
        rw [List.getElem?_eq_getElem (by omega)] at h1
        exact ⟨_, by simpa [Addr.add] using h1⟩
      obtain ⟨u0, hu0⟩ := hc0
      obtain ⟨b, o, spot⟩ := a
      have hspot : spot = none := by simpa using World.cell?_spot hu0
      subst hspot
      refine ⟨b, o, rfl, World.block_lt_of_cell? w _ hu0, fun j u hu => ?_⟩
      have := hr j u hu
      rw [Nat.zero_mul, Nat.zero_add, add_at] at this
      exact this
end

/-! ### The form's own bound -/
theorem all_append {p : Nat → Bool} {a b : List Nat} (h : (a ++ b).all p = true) : a.all p = true ∧ b.all p = true := by
  rw [List.all_append, Bool.and_eq_true] at h; exact h
theorem weights_slice {H : Type} {P : Program} {t e : TypeId} {es sp : List (DataW H)} (ht : P.underlying t = some (.slice e)) (h : (DataW.weights P t (.slice es sp)).all (· ≤ reachBytes) = true) :
    (es.length + sp.length) * P.bytesOf e ≤ reachBytes ∧ ∀ d ∈ es, (d.weights P e).all (· ≤ reachBytes) = true := by
  simp only [DataW.weights, ht, List.all_cons, Bool.and_eq_true] at h
  obtain ⟨h1, h2⟩ := h
  refine ⟨by simpa using h1, ?_⟩
  obtain ⟨h3, _⟩ := all_append h2
  clear h1 h2
  induction es with
  | nil => intro d hd; cases hd
  | cons d0 es ih =>
    simp only [DataW.weightsAll] at h3
    obtain ⟨h4, h5⟩ := all_append h3
    intro d hd
    rcases List.mem_cons.1 hd with rfl | hd
    · exact h4
    · exact ih h5 d hd
theorem weights_first {H : Type} {P : Program} {t : TypeId} {ts : List TypeId} {d : DataW H} {ds : List (DataW H)} (h : (DataW.weightsEach P (t :: ts) (d :: ds)).all (· ≤ reachBytes) = true) :
    (d.weights P t).all (· ≤ reachBytes) = true ∧ (DataW.weightsEach P ts ds).all (· ≤ reachBytes) = true := by
  simp only [DataW.weightsEach] at h
  exact all_append h
end Go.Proofs.YthgefobcohlegaaGreatDoor

namespace Go.Proofs.YthgefobcohlegaaGreatDoor
open Go.RowKit Go.ChangeShapes Go.WideShapes Go.ChangeAt
set_option linter.unusedVariables false

section
variable {H : Type} {enc : TypeId × Value → H} {w : World} {base : Nat} {spare : Nat → Bool} {held : Bool}
theorem B8_of (s : ByteArray) : ∃ l : Bs, s = B8 l ∧ l.length = s.size := ⟨s.data.toList, by cases s; rfl, by simp⟩
end
end Go.Proofs.YthgefobcohlegaaGreatDoor

namespace Go.Proofs.YthgefobcohlegaaGreatDoor
open Go.RowKit Go.ChangeShapes Go.WideShapes Go.ChangeAt
set_option linter.unusedVariables false

structure SActV where
  kd : Bs
  nm : Bs
  t : Int
  u : Int
  bit : Int
  m : Value
def sactL (a : SActV) : List Value := [.string (B8 a.kd), .string (B8 a.nm), .int .i64 a.t, .int .i64 a.u, .int .u64 a.bit, a.m]
def sactC (l : List SActV) : List Value := l.flatMap sactL
theorem Rd.atS {w : World} {B n : Nat} {A : Option Addr} {ys : List SActV} (h : Rd w B 6 A n (sactC ys)) {k : Nat} (hk : k < n) :
    ∃ b o y, A = some ⟨b, o, none⟩ ∧ b < B ∧ ys[k]? = some y ∧ w.cell? ⟨b, o + k * 6, none⟩ = some (.string (B8 y.kd)) ∧ w.cell? ⟨b, o + k * 6 + 1, none⟩ = some (.string (B8 y.nm)) ∧ w.cell? ⟨b, o + k * 6 + 2, none⟩ = some (.int .i64 y.t) ∧
      w.cell? ⟨b, o + k * 6 + 3, none⟩ = some (.int .i64 y.u) ∧ w.cell? ⟨b, o + k * 6 + 4, none⟩ = some (.int .u64 y.bit) ∧ w.cell? ⟨b, o + k * 6 + 5, none⟩ = some y.m := by
  obtain ⟨b, o, e, hb, hc⟩ := h.2 (by omega)
  have hl : k < ys.length := by have := h.1; unfold sactC at this; rw [flat_len _ 6 (fun _ => rfl)] at this; omega
  have hy : ys[k]? = some ys[k] := List.getElem?_eq_getElem hl
  have hg := fun j (hj : j < 6) => flat_get sactL 6 (fun _ => rfl) ys k j ys[k] hy hj
  refine ⟨b, o, ys[k], e, hb, hy, hc (k * 6) _ (hg 0 (by omega)), ?_, ?_, ?_, ?_, ?_⟩
  · rw [Nat.add_assoc]; exact hc (k * 6 + 1) _ (hg 1 (by omega))
  · rw [Nat.add_assoc]; exact hc (k * 6 + 2) _ (hg 2 (by omega))
  · rw [Nat.add_assoc]; exact hc (k * 6 + 3) _ (hg 3 (by omega))
  · rw [Nat.add_assoc]; exact hc (k * 6 + 4) _ (hg 4 (by omega))
  · rw [Nat.add_assoc]; exact hc (k * 6 + 5) _ (hg 5 (by omega))
theorem i64_of_wf {n : Int} (h : (Lit.int IntKind.i64 n).wf) : -9223372036854775808 ≤ n ∧ n ≤ 9223372036854775807 := by
  simpa [Lit.wf, IntKind.min, IntKind.max, IntKind.signed, IntKind.bits] using h
theorem cellsSAct : Tryz.prog.cellsOf 36 = 6 := by kernel_rfl
theorem cellsI9 : Tryz.prog.cellsOf 3 = 1 := by kernel_rfl
theorem cellsU9 : Tryz.prog.cellsOf 33 = 1 := by kernel_rfl
theorem cellsS9 : Tryz.prog.cellsOf 9 = 1 := by kernel_rfl
theorem cellsM9 : Tryz.prog.cellsOf 34 = 1 := by kernel_rfl
theorem cellsMx : Tryz.prog.cellsOf 126 = 3 := by kernel_rfl
theorem bytesSAct : Tryz.prog.bytesOf 36 = 80 := by kernel_rfl
section
variable {H : Type} {enc : TypeId × Value → H} {w : World} {base : Nat} {spare : Nat → Bool} {held : Bool}
theorem trod6 {P : Program} {t : TypeId} {f0 f1 f2 f3 f4 f5 : Field} {fuel : Nat} {cs : List Value} {x : DataW H × List MemPlace} (ht : P.underlying t = some (.struct #[f0, f1, f2, f3, f4, f5])) (h : DataW.trod enc P w base spare held fuel t cs = some x) :
    ∃ y0 y1 y2 y3 y4 y5 n, cs.length = P.cellsOf t ∧ DataW.trod enc P w base spare held n f0.type ((cs.drop f0.offset).take (P.cellsOf f0.type)) = some y0 ∧
      DataW.trod enc P w base spare held n f1.type ((cs.drop f1.offset).take (P.cellsOf f1.type)) = some y1 ∧ DataW.trod enc P w base spare held n f2.type ((cs.drop f2.offset).take (P.cellsOf f2.type)) = some y2 ∧
      DataW.trod enc P w base spare held n f3.type ((cs.drop f3.offset).take (P.cellsOf f3.type)) = some y3 ∧ DataW.trod enc P w base spare held n f4.type ((cs.drop f4.offset).take (P.cellsOf f4.type)) = some y4 ∧
      DataW.trod enc P w base spare held n f5.type ((cs.drop f5.offset).take (P.cellsOf f5.type)) = some y5 := by
  obtain ⟨xs, n, _, rfl, hl, hlen, hf⟩ := DataW.trod_struct ht h
  match xs, hlen with
  | [y0, y1, y2, y3, y4, y5], _ => exact ⟨y0, y1, y2, y3, y4, y5, n, hl, by simpa using hf 0 f0 rfl, by simpa using hf 1 f1 rfl, by simpa using hf 2 f2 rfl, by simpa using hf 3 f3 rfl, by simpa using hf 4 f4 rfl, by simpa using hf 5 f5 rfl⟩
def SActOk (a : SActV) : Prop := Word a.bit ∧ ∃ A n c, a.m = .slice A n c
set_option maxRecDepth 100000 in
theorem open_sact {fuel : Nat} {cs : List Value} {x : DataW H × List MemPlace} (h : DataW.trod enc Tryz.prog w base spare held fuel 36 cs = some x) :
    ∃ a : SActV, cs = sactL a ∧ SActOk a := by
  obtain ⟨y0, y1, y2, y3, y4, y5, n, hl, h0, h1, h2, h3, h4, h5⟩ := trod6 Tryz.underlying36 h
  rw [cellsSAct] at hl
  match cs, hl with
  | [c0, c1, c2, c3, c4, c5], _ =>
    simp only [cellsS9, cellsI9, cellsU9, cellsM9, List.drop_zero, List.take_succ_cons, List.take_zero, List.drop_succ_cons] at h0 h1 h2 h3 h4 h5
    obtain ⟨a, e0, _, _⟩ := DataW.trod_string Tryz.underlying9 h0
    obtain ⟨b, e1, _, _⟩ := DataW.trod_string Tryz.underlying9 h1
    obtain ⟨c, e2, _, _⟩ := DataW.trod_int Tryz.underlying3 h2
    obtain ⟨d, e3, _, _⟩ := DataW.trod_int Tryz.underlying3 h3
    obtain ⟨f, e4, _, wf⟩ := DataW.trod_int Tryz.underlying33 h4
    obtain ⟨A, cap, ys, e5, _⟩ := open_rd Tryz.underlying34 cellsMx (by omega) h5
    simp only [List.cons.injEq, and_true] at e0 e1 e2 e3 e4 e5
    subst e0; subst e1; subst e2; subst e3; subst e4; subst e5
    obtain ⟨la, rfl, _⟩ := B8_of a
    obtain ⟨lb, rfl, _⟩ := B8_of b
    refine ⟨⟨la, lb, c, d, f, _⟩, rfl, ?_, A, _, cap, rfl⟩
    have : 0 ≤ f ∧ f ≤ 18446744073709551615 := by simpa [Lit.wf, IntKind.min, IntKind.max, IntKind.signed, IntKind.bits] using wf
    exact ⟨this.1, by dsimp only; omega⟩
set_option maxRecDepth 100000 in
theorem open_sacts {fuel : Nat} {cs : List Value} {x : DataW H × List MemPlace} (h : DataW.trod enc Tryz.prog w base spare held fuel 22 cs = some x)
    (hw : (x.1.weights Tryz.prog 22).all (· ≤ reachBytes) = true) :
    ∃ (A : Option Addr) (n c : Nat) (ps : List SActV), cs = [.slice A n c] ∧ n ≤ 140737488351232 ∧ n ≤ c ∧ c ≤ maxLen ∧ Rd w w.heap.size 6 A n (sactC ps) ∧ ∀ a ∈ ps, SActOk a := by
  obtain ⟨A, cap, ys, rfl, hc, hm, hys, hrd, hx⟩ := open_rd Tryz.underlying22 cellsSAct (by omega) h
  have hpts : ∃ ps : List SActV, ys.map (·.1) = ps.map sactL ∧ ∀ a ∈ ps, SActOk a := by
    clear hx hrd hc h hw
    induction ys with
    | nil => exact ⟨[], rfl, by simp⟩
    | cons y ys ih =>
      obtain ⟨ps, e, hps⟩ := ih (fun z hz => hys z (by simp [hz]))
      obtain ⟨_, m, q, hq⟩ := hys y (by simp)
      obtain ⟨p, hp, hpw⟩ := open_sact hq
      exact ⟨p :: ps, by simp [hp, e], by intro z hz; rcases List.mem_cons.1 hz with rfl | hz; exact hpw; exact hps z hz⟩
  obtain ⟨ps, e, hps⟩ := hpts
  refine ⟨A, ys.length, cap, ps, rfl, ?_, hc, hm, ?_, hps⟩
  · rcases hx with ⟨_, rfl⟩ | ⟨sp, hx⟩
    · simp
    · rw [hx] at hw
      have := (weights_slice Tryz.underlying22 hw).1
      rw [bytesSAct] at this
      simp only [List.length_map, reachBytes] at this
      omega
  · have : ys.flatMap (·.1) = sactC ps := by
      unfold sactC
      rw [List.flatMap_def, List.flatMap_def, e]
    rw [← this]; exact hrd
end
end Go.Proofs.YthgefobcohlegaaGreatDoor
