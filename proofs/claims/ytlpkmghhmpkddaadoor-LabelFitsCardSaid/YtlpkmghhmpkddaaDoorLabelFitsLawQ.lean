/- LabelFits by its contract: it returns true. -/
import Derived.Test.YtlpkmghhmpkddaaDoorLabelled
import Derived.Test.YtlpkmghhmpkddaaDoorOrd
import Derived.Test.YtlpkmghhmpkddaaDoorFit2
import Derived.Test.YtlpkmghhmpkddaaDoorMkb
import Derived.Deep.DeepCutAuto
import Derived.Deep.Light
import Derived.BigQuiet
namespace Go.Proofs.YtlpkmghhmpkddaaDoor
open Go.RowKit
set_option linter.unusedVariables false

/-- Bools as cells. -/
def bC (xs : List Bool) : Array Value := (xs.map Value.bool).toArray
theorem bC_get (xs : List Bool) (i : Nat) : (bC xs)[i]? = (xs[i]?).map Value.bool := by unfold bC; simp
theorem bC_put {W : World} {g : Nat} {xs : List Bool} (h : Blk W g 4 (bC xs)) (i : Nat) (y : Bool) : Blk (W.setCell ⟨g, i, none⟩ (.bool y)) g 4 (bC (xs.set i y)) := by
  have e : bC (xs.set i y) = (bC xs).setIfInBounds i (.bool y) := by unfold bC; simp
  rw [e]
  exact h.set_ i _
theorem infoBo : (Tryd.prog.info? 4).map (fun i => (i.zero, i.size, i.bytes)) = some (some (.bool false), 1, 1) := by kernel_rfl
theorem made_bo (n : Nat) : madeCells #[.bool false] n = bC (List.replicate n false) := by
  apply Array.toList_inj.1
  rw [toList_madeCells_one]
  unfold bC
  simp
theorem mk_bo (n : Nat) (hn : n ≤ 1000) (W : World) : (Instr.makeSlice 46 (.int .i64 (n : Int)) (.int .i64 (n : Int))).run Tryd.prog W = .ok (.slice (some ⟨W.heap.size, 0, none⟩) n n) (W.alloc (.cells (bC (List.replicate n false)) 4)) := by
  obtain ⟨i, hi, hz0, hz1, hz2⟩ := info_parts infoBo
  have := run_make (P := Tryd.prog) W 46 4 i (.bool false) Tryd.underlying46 hi hz0 .i64 .i64 (n : Int) (n : Int) (by omega) (Int.le_refl _) (by rw [hz2]; omega) (by omega)
  rw [hz1, Int.toNat_natCast, Nat.mul_one] at this
  rw [this, ← made_bo]; rfl
/-- What has been seen. -/
def seenK (n : Nat) (M : List Nat) (k : Nat) : List Bool := (List.range n).map fun i => decide (i ∈ M.take k)
theorem seen_zero (n : Nat) (M : List Nat) : seenK n M 0 = List.replicate n false := by
  unfold seenK
  refine List.ext_getElem? fun i => ?_
  rw [List.getElem?_map, List.getElem?_replicate]
  by_cases h : i < n
  · rw [List.getElem?_range h, if_pos h]; simp
  · rw [if_neg h, List.getElem?_eq_none (by simpa using h)]; rfl
theorem seen_get {n x k : Nat} {M : List Nat} (hn : M.Nodup) (hx : M[k]? = some x) (hl : x < n) : (seenK n M k)[x]? = some false := by
  unfold seenK
  rw [List.getElem?_map, List.getElem?_range hl]
  show some (decide (x ∈ M.take k)) = some false
  rw [decide_eq_false]
  intro hm
  obtain ⟨j, hj, e⟩ := List.getElem_of_mem hm
  rw [List.length_take] at hj
  rw [List.getElem_take] at e
  obtain ⟨h1, h2⟩ := List.getElem?_eq_some_iff.1 hx
  have := (List.pairwise_iff_getElem.1 hn) j k (by omega) h1 (by omega)
  exact this (e.trans h2.symm)
theorem seen_set {n x k : Nat} {M : List Nat} (hx : M[k]? = some x) (hl : x < n) : (seenK n M k).set x true = seenK n M (k + 1) := by
  unfold seenK
  refine List.ext_getElem? fun i => ?_
  rw [List.getElem?_set, List.getElem?_map, List.getElem?_map, List.length_map, List.length_range, take_snoc hx]
  by_cases h : x = i
  · subst h
    rw [if_pos rfl, if_pos hl, List.getElem?_range hl]
    simp
  · rw [if_neg h]
    by_cases hi : i < n
    · rw [List.getElem?_range hi]
      simp
      intro h2
      exact absurd h2.symm h
    · rw [List.getElem?_eq_none (by simpa using hi)]; rfl
/-- What stands for g behind k rounds. -/
def gK (n : Nat) (L : List (List Lb)) (k : Nat) : Nat × Int := if 60 < n then (2, -1) else frstL L k
theorem gK_all {n : Nat} {L : List (List Lb)} (h : L.length = n) : gK n L n = ordF L := by unfold gK ordF; rw [h]
theorem gK_skip {n k : Nat} {L : List (List Lb)} (h : (gK n L k).1 ≠ 0) : gK n L (k + 1) = gK n L k := by
  unfold gK at h ⊢
  split
  · rfl
  · rename_i h6
    rw [if_neg h6] at h
    exact frstL_stop h _ (Nat.le_succ k)
theorem gK_ok {n k : Nat} {L : List (List Lb)} {x : List Lb} (h : (gK n L k).1 = 0) (hx : L[k]? = some x) (hf : (lbF x).1 = 0) : gK n L (k + 1) = gK n L k := by
  unfold gK at h ⊢
  split
  · rfl
  · rename_i h6
    rw [if_neg h6] at h
    rw [frstL_next h hx hf, frstL_zero h]
theorem gK_hit {n k : Nat} {L : List (List Lb)} {x : List Lb} (h : (gK n L k).1 = 0) (hx : L[k]? = some x) (hf : (lbF x).1 ≠ 0) : gK n L (k + 1) = ((lbF x).1, (k : Int)) := by
  unfold gK at h ⊢
  split
  · rename_i h6
    rw [if_pos h6] at h
    cases h
  · rename_i h6
    rw [if_neg h6] at h
    exact frstL_hit h hx hf (Nat.lt_succ_self k)
theorem ord_good {L : List (List Lb)} (h : (ordF L).1 = 0) : L.length ≤ 60 ∧ ∀ x ∈ L, (lbF x).1 = 0 := by
  unfold ordF at h
  split at h
  · cases h
  rename_i h6
  refine ⟨by omega, fun x hx => ?_⟩
  obtain ⟨j, hj, rfl⟩ := List.getElem_of_mem hx
  apply Classical.byContradiction
  intro hne
  have h0 : (frstL L j).1 = 0 := by
    apply Classical.byContradiction
    intro h1
    rw [frstL_stop h1 L.length (by omega)] at h
    exact h1 h
  rw [frstL_hit h0 (List.getElem?_eq_getElem hj) hne hj] at h
  exact hne h
theorem lb_good {x : List Lb} (h : (lbF x).1 = 0) : x.length ≤ 6 ∧ ∀ j, j < x.length → lbOk x j := by
  rcases lbF_cases x with ⟨_, e⟩ | ⟨_, e⟩ | ⟨i, _, _, _, _, _, e⟩ | ⟨_, h2, h3, _⟩
  · rw [e] at h; cases h
  · rw [e] at h; cases h
  · rw [e] at h; exact absurd h (Nat.succ_ne_zero _)
  · exact ⟨h2, h3⟩
set_option maxRecDepth 100000 in
set_option maxHeartbeats 60000000 in
theorem labelFits_law {es : Nat → Addr} {B : Nat} (A Am An : Option Addr) (n c nm cm nn cn : Nat) (l : List Lb) (ms : List Mt) (ls : List LabV) (w : World) (hS : Sents es B w) (hB : B = w.heap.size) (hA : Rd w w.heap.size 2 A n (lbC l)) (hM : Rd w w.heap.size 3 Am nm (mtC ms)) (hk : ∀ m ∈ ms, m.1 < 256) (hL : LabsRd w w.heap.size An nn ls)
    (hnm : nm ≤ 140737488351232) (hnn : nn ≤ 140737488351232) :
    Calls Tryd.prog 3 #[.slice A n c, .slice Am nm cm, .slice An nn cn] w fun e w' => e = .returned (.bool true) ∧ Below w.heap.size w w' := by
  have hB0 : B ≤ w.heap.size := Nat.le_of_eq hB
  have hlenM : ms.length = nm := by have := hM.1; unfold mtC at this; rw [flat_len _ 3 (fun _ => rfl)] at this; omega
  have Hlb := Lib.hid (labelled_any w hS.vl hB0)
  have HS := Lib.hid (fun W (hb : Below w.heap.size w W) => hS.below hb hB0)
  have HB0 := Lib.hid (fun W (hb : Below w.heap.size w W) => Nat.le_trans hB0 hb.size)
  have HA := Lib.hid (fun W (hb : Below w.heap.size w W) => (hA.below hb).more hb.size)
  have HM := Lib.hid (fun W (hb : Below w.heap.size w W) => (hM.below hb).more hb.size)
  have HMa := Lib.hid (fun W (hb : Below w.heap.size w W) (i : Nat) (hi : i < nm) => (hM.below hb).at3 hi)
  have HL := Lib.hid (fun W (hb : Below w.heap.size w W) => (hL.below hb (Nat.le_refl _)).more hb.size)
  have HLa := Lib.hid (fun W (hb : Below w.heap.size w W) (i : Nat) (hi : i < nn) => (hL.below hb (Nat.le_refl _)).1.at1 (f := fun r : LabV => r.v) hi)
  have Hk := Lib.hid hk; have HlenM := Lib.hid hlenM; have Hlen := Lib.hid hL.len
  have Hv := Lib.hid (fun W (hb : Below w.heap.size w W) => (hL.below hb (Nat.le_refl _)).2)
  obtain ⟨L, hLL⟩ : ∃ L, L = ls.map fun r => r.l := ⟨_, rfl⟩
  have HLL := Lib.hid hLL
  have HLl := Lib.hid (show L.length = nn by rw [hLL, List.length_map, Hlen.out])
  have HLat := Lib.hid (fun W (hb : Below w.heap.size w W) (i : Nat) (hi : i < nn) => show ∃ b0 o0 A' c' x, An = some ⟨b0, o0, none⟩ ∧ L[i]? = some x ∧ W.cell? ⟨b0, o0 + i, none⟩ = some (.slice A' x.length c') ∧ Rd W W.heap.size 2 A' x.length (lbC x) from by
    obtain ⟨b0, o0, y, hA0, had0, hy, x0⟩ := HLa.out W hb i hi
    obtain ⟨A', c', hyv, hrd⟩ := Hv.out W hb y (List.mem_of_getElem? hy)
    rw [hyv] at x0
    exact ⟨b0, o0, A', c', y.l, hA0, by rw [HLL.out, List.getElem?_map, hy]; rfl, x0, hrd.more hb.size⟩)
  clear hA hM hL hS hB0 hk hlenM hLL hB
  go_enter Tryd.func3, Tryd.ntmps3
  go_wp2_with fail
  refine Hlb.out.mono ?_
  rintro e w1 ⟨rfl, hb⟩
  have HB1 := Lib.hid hb
  have Hlg := Lib.hid (longLabels_any A n c l w1 (HA.out _ HB1.out))
  clear hb Hlb
  go_wp2_with fail
  refine Hlg.out.mono ?_
  rintro e w2 ⟨hr, rfl⟩
  rcases hr with rfl | ⟨rfl, hn20, hsm⟩
  · go_wp2
    go_ret
    exact ⟨rfl, HB1.out⟩
  have Hsm := Lib.hid hsm
  clear hsm Hlg
  by_cases h20 : 20 < nm
  · have h20' : (20 : Int) < nm := by omega
    go_wp2
    go_ret
    exact ⟨rfl, HB1.out⟩
  have h20' : ¬ (20 : Int) < nm := by omega
  by_cases h70 : 70 < nn
  · have h70' : (70 : Int) < nn := by omega
    go_wp2
    go_ret
    exact ⟨rfl, HB1.out⟩
  have h70' : ¬ (70 : Int) < nn := by omega
  go_wp2
  go_loopw [8] (fun iv wr => ∃ k : Nat, k ≤ nm ∧ iv = .int .i64 k ∧ Below w.heap.size w wr ∧ ∀ j (m : Mt), j < k → ms[j]? = some m → m.2.1.length ≤ 60 ∧ m.2.2.length ≤ 60) (fun iv _ => nm - (intOf iv).toNat)
  case atStart => exact ⟨0, Nat.zero_le _, rfl, HB1.out, fun j m h => absurd h (Nat.not_lt_zero _)⟩
  case round =>
    rename World => wo
    obtain ⟨k, hk, rfl, hb, hpre⟩ := hrel
    have HB := Lib.hid hb; have Hpre := Lib.hid hpre
    clear hpre
    by_cases hkn : k < nm
    · have hkn' : (k : Int) < nm := by omega
      obtain ⟨b0, o0, m, hA0, had0, hm, x0, x1, x2⟩ := HMa.out _ hb k hkn
      subst hA0
      have s1 := B8_size m.2.1; have s2 := B8_size m.2.2
      have Hn := Lib.hid (fun (h1 : m.2.1.length ≤ 60) (h2 : m.2.2.length ≤ 60) => show ∀ j (q : Mt), j < k + 1 → ms[j]? = some q → q.2.1.length ≤ 60 ∧ q.2.2.length ≤ 60 from fun j q hj hq => by
        rcases Nat.lt_or_ge j k with h | h
        · exact Hpre.out j q h hq
        · obtain rfl : j = k := by omega
          obtain rfl := Option.some.inj (hq.symm.trans hm)
          exact ⟨h1, h2⟩)
      obtain ⟨z1, hz1⟩ : ∃ z, z = m.2.1.length := ⟨_, rfl⟩
      obtain ⟨z2, hz2⟩ : ∃ z, z = m.2.2.length := ⟨_, rfl⟩
      rw [← hz1] at s1 Hn
      rw [← hz2] at s2 Hn
      clear hb hm hz1 hz2
      generalize B8 m.2.1 = t1 at x1 s1
      generalize B8 m.2.2 = t2 at x2 s2
      by_cases h1 : 60 < z1
      · have h1' : (60 : Int) < (t1.size : Int) := by omega
        have h1'' : (60 : Int) < (z1 : Int) := by omega
        go_wp2
        go_ret
        exact ⟨rfl, HB.out⟩
      have h1' : ¬ (60 : Int) < (t1.size : Int) := by omega
      have h1'' : ¬ (60 : Int) < (z1 : Int) := by omega
      by_cases h2 : 60 < z2
      · have h2' : (60 : Int) < (t2.size : Int) := by omega
        have h2'' : (60 : Int) < (z2 : Int) := by omega
        go_wp2
        go_ret
        exact ⟨rfl, HB.out⟩
      have h2' : ¬ (60 : Int) < (t2.size : Int) := by omega
      have h2'' : ¬ (60 : Int) < (z2 : Int) := by omega
      have Hnx := Lib.hid (Hn.out (by omega) (by omega))
      go_wp2
      go_roundw
      case rel => exact ⟨k + 1, by omega, by go_num, HB.out, Hnx.out⟩
      case measure => simp [intOf]; omega
    obtain rfl : k = nm := by omega
    have hkn' : ¬ (k : Int) < k := by omega
    have Hms := Lib.hid (show ∀ m ∈ ms, m.2.1.length ≤ 100000 from fun m hm => by
      obtain ⟨j, hj, rfl⟩ := List.getElem_of_mem hm
      exact Nat.le_trans (Hpre.out j _ (by rw [← HlenM.out]; exact hj) (List.getElem?_eq_getElem hj)).1 (by decide))
    have Hfi := Lib.hid (lfits_any A Am n c k cm l ms wo (HS.out _ hb) (HB0.out _ hb) (HA.out _ hb) (by omega) (HM.out _ hb) Hk.out)
    clear hb
    go_wp2_with fail
    refine Hfi.out.mono ?_
    rintro e w3 ⟨bb, v, rfl, hev, hbb, hbf, hb⟩
    obtain ⟨⟨d1, d2⟩, hD⟩ : ∃ D, D = if (lbF l).1 ≠ 0 then lbF l else mtF ms := ⟨_, rfl⟩
    rw [← hD] at hev
    have HB3 := Lib.hid (Below.call HB.out hb HB.out.size)
    have HE3 := Lib.hid hev
    have Hbb := Lib.hid (show d1 ≠ 0 → bb = false from fun h => hbb (by
      by_cases h0 : (lbF l).1 ≠ 0
      · exact .inl h0
      · rw [if_neg h0] at hD; exact .inr (by rw [← hD]; exact h)))
    have Hbf := Lib.hid (show d1 = 0 → bb = fitB l ms ∧ (mtF ms).1 = 0 from fun h => by
      by_cases h0 : (lbF l).1 ≠ 0
      · rw [if_pos h0] at hD; rw [← hD] at h0; exact absurd h h0
      · rw [if_neg h0] at hD
        have h1 : (mtF ms).1 = 0 := by rw [← hD]; exact h
        have h2 : (lbF l).1 = 0 := Classical.byContradiction h0
        exact ⟨hbf h2 h1, h1⟩)
    have HD := Lib.hid hD
    have Hlf := Lib.hid (labelsFault_u A n c l w3 (HA.out _ HB3.out) (fun p hp => ⟨Nat.le_trans (Hsm.out p hp).1 (by decide), Nat.le_trans (Hsm.out p hp).2 (by decide)⟩))
    clear hev hbb hbf hb hD Hfi
    go_wp2_with fail
    refine Hlf.out.mono ?_
    rintro e w4 ⟨rfl, hb⟩
    obtain ⟨⟨f1, f2⟩, hF⟩ : ∃ F, F = lbF l := ⟨_, rfl⟩
    rw [← hF, show fV (f1, f2) = .agg #[.int .i64 (f1 : Int), .int .i64 f2] from rfl]
    have HD2 := Lib.hid (show (d1, d2) = if f1 ≠ 0 then (f1, f2) else mtF ms by rw [HD.out, ← hF])
    have HB4 := Lib.hid (Below.call HB3.out hb HB3.out.size)
    have HK4 := Lib.hid (Blk.new w4 36 #[.int .i64 (f1 : Int), .int .i64 f2])
    have HB5 := Lib.hid (Below.alloc HB4.out HB4.out.size (.cells #[.int .i64 (f1 : Int), .int .i64 f2] 36))
    have Hb35 := Lib.hid (Below.call hb (Below.alloc (Below.refl w4.heap.size w4) (Nat.le_refl _) (.cells #[.int .i64 (f1 : Int), .int .i64 f2] 36)) hb.size)
    have Hb34 := Lib.hid hb
    clear hb hF HD Hlf
    have Hf3 := Lib.hid (show w3.heap.size ≤ w4.heap.size ∧ w.heap.size ≤ w4.heap.size from ⟨Hb34.out.size, HB4.out.size⟩)
    obtain ⟨fa, hfa⟩ : ∃ fa, fa = w4.heap.size := ⟨_, rfl⟩
    go_upto_if 73 with fail
    rw [← hfa] at HK4 Hf3 ⊢
    generalize w4.alloc (.cells #[.int .i64 (f1 : Int), .int .i64 f2] 36) = w5 at HK4 HB5 Hb35 ⊢
    clear hfa HB4 Hb34
    have z0 := HK4.out.cell 0
    go_cut [] (fun wx => Below w.heap.size w wx ∧ Below w3.heap.size w3 wx ∧ Blk wx fa 36 #[.int .i64 (d1 : Int), .int .i64 d2])
    case first =>
      by_cases h0 : f1 = 0
      · have h0' : ((f1 : Int) == 0) = true := by rw [h0]; rfl
        have Hmf := Lib.hid (rmatches_any Am k cm ms w5 (HM.out _ HB5.out) Hms.out)
        rw [show mtF ms = (d1, d2) by have := HD2.out; rw [if_neg (by rw [h0]; exact fun h => h rfl)] at this; exact this.symm] at Hmf
        clear h0
        go_wp2_with fail
        refine Hmf.out.mono ?_
        rintro e w6 ⟨rfl, hb⟩
        rw [show fV (d1, d2) = .agg #[.int .i64 (d1 : Int), .int .i64 d2] from rfl]
        have hk6 := HK4.out.below hb HK4.out.lt
        have Hk6 := Lib.hid ((hk6.set_ 0 (.int .i64 (d1 : Int))).set_ 1 (.int .i64 d2))
        have HB6 := Lib.hid (Below.setCell (Below.setCell (Below.call HB5.out hb HB5.out.size) (p := ⟨fa, 0, none⟩) Hf3.out.2 (.int .i64 (d1 : Int))) (p := ⟨fa, 1, none⟩) Hf3.out.2 (.int .i64 d2))
        have Hb36 := Lib.hid (Below.setCell (Below.setCell (Below.call Hb35.out hb Hb35.out.size) (p := ⟨fa, 0, none⟩) Hf3.out.1 (.int .i64 (d1 : Int))) (p := ⟨fa, 1, none⟩) Hf3.out.1 (.int .i64 d2))
        have q0 := hk6.cell 0; have q1 := hk6.cell 1; have r0 := hk6.frozen 0; have r1 := hk6.frozen 1
        clear hb hk6 Hmf
        go_wp2
        go_meet
        exact ⟨HB6.out, Hb36.out, Hk6.out⟩
      · have h0' : ((f1 : Int) == 0) = false := by rw [beq_eq_false_iff_ne]; omega
        obtain ⟨rfl, rfl⟩ : d1 = f1 ∧ d2 = f2 := by have := HD2.out; rw [if_pos h0] at this; injection this with a b; exact ⟨a, b⟩
        clear h0
        go_wp2
        go_meet
        exact ⟨HB5.out, Hb35.out, HK4.out⟩
    case rest =>
      obtain ⟨hb6, hb36, hk6⟩ := hcut
      have HB6 := Lib.hid hb6; have Hb36 := Lib.hid hb36; have HK6 := Lib.hid hk6
      rename World => w6
      have z0 := hk6.cell 0; have z1 := hk6.cell 1
      clear hb6 hb36 hk6 HB5 Hb35 HK4 HD2 Hf3
      apply_assumption
      go_upto_if 78 with fail
      go_cut [] (fun wx => Below w.heap.size w wx)
      case first =>
        by_cases h0 : d1 = 0
        · obtain ⟨hf1, hf2⟩ := Hbf.out h0
          obtain ⟨_, hko⟩ := mtF_ok hf2
          obtain rfl := HE3.out.zero h0
          have h0' : ¬ (0 : Int) < (d1 : Int) := by omega
          have Hrf := Lib.hid (rfits_any A Am n c k cm l ms w6 (HA.out _ HB6.out) (by omega) (HM.out _ HB6.out) (by omega) hko)
          rw [← hf1] at Hrf
          have hbn : (bb != bb) = false := by cases bb <;> rfl
          clear h0 hf1 hf2 hko
          go_wp2_with fail
          refine Hrf.out.mono ?_
          rintro e w7 ⟨rfl, hb⟩
          have HB7 := Lib.hid (Below.call HB6.out hb HB6.out.size)
          clear hb Hrf
          go_wp2
          go_meet
          exact HB7.out
        · have h0' : (0 : Int) < (d1 : Int) := by omega
          obtain rfl := Hbb.out h0
          have Hfe := Lib.hid (faulted_ev v d1 d2 w6 (HS.out _ HB6.out) (HB0.out _ HB6.out) (HE3.out.below Hb36.out (Nat.le_refl _)))
          clear h0
          go_wp2_with fail
          refine Hfe.out.mono ?_
          rintro e w7 ⟨rfl, hb⟩
          have HB7 := Lib.hid (Below.call HB6.out hb HB6.out.size)
          clear hb Hfe
          go_wp2
          go_meet
          exact HB7.out
      case rest =>
        have HB7 := Lib.hid hcut
        clear hcut HB6 Hb36 HK6 HE3 Hbb Hbf z0 z1
        rename World => w7
        apply_assumption
        go_wp2_with fail
        refine (fine_any _).mono ?_
        rintro e w8 ⟨rfl, hb⟩
        have HB8 := Lib.hid (Below.call HB7.out hb HB7.out.size)
        have HK9 := Lib.hid (Blk.new w8 36 #[.int .i64 0, .int .i64 (-1)])
        have HB9 := Lib.hid (Below.alloc HB8.out HB8.out.size (.cells #[.int .i64 0, .int .i64 (-1)] 36))
        have Hg0 := Lib.hid (HB8.out.size)
        obtain ⟨ga, hga⟩ : ∃ ga, ga = w8.heap.size := ⟨_, rfl⟩
        rw [← hga] at HK9 Hg0
        clear hb
        by_cases h60 : 60 < nn
        · have h60' : (60 : Int) < nn := by omega
          have Hof := Lib.hid (show ordF L = (2, -1) by unfold ordF; rw [if_pos (by rw [HLl.out]; exact h60)])
          go_wp2_with fail
          refine (bare_any 2 _).mono ?_
          rintro e wA ⟨rfl, hb⟩
          have hkA := HK9.out.below hb HK9.out.lt
          have HkB := Lib.hid ((hkA.set_ 0 (.int .i64 2)).set_ 1 (.int .i64 (-1)))
          have HBB := Lib.hid (Below.setCell (Below.setCell (Below.call HB9.out hb HB9.out.size) (p := ⟨ga, 0, none⟩) Hg0.out (.int .i64 2)) (p := ⟨ga, 1, none⟩) Hg0.out (.int .i64 (-1)))
          have q0 := hkA.cell 0; have q1 := hkA.cell 1; have r0 := hkA.frozen 0; have r1 := hkA.frozen 1
          rw [hga] at HkB HBB q0 q1 r0 r1
          clear hb hkA
          go_wp2
          rw [← hga] at HkB HBB ⊢
          clear hga q0 q1 r0 r1
          go_loopw [13] (fun iv wr => ∃ k : Nat, k ≤ nn ∧ iv = .int .i64 k ∧ Below w.heap.size w wr ∧ Blk wr ga 36 #[.int .i64 2, .int .i64 (-1)]) (fun iv _ => nn - (intOf iv).toNat)
          case atStart => exact ⟨0, Nat.zero_le _, rfl, HBB.out, HkB.out⟩
          case round =>
            rename World => wr
            obtain ⟨i, hi, rfl, hb, hkb⟩ := hrel
            have HB := Lib.hid hb; have HK := Lib.hid hkb
            have z0 := hkb.cell 0; have z1 := hkb.cell 1
            by_cases hin : i < nn
            · have hin' : (i : Int) < nn := by omega
              obtain ⟨b0, o0, A', c', x, hA0, hx, x0, hrd⟩ := HLat.out _ hb i hin
              subst hA0
              have Hlg := Lib.hid (longLabels_any A' x.length c' x wr hrd)
              have Hrd := Lib.hid hrd
              have Hlf := Lib.hid (fun (h : LbSmall x) => labelsFault_u A' x.length c' x wr hrd (fun p hp => ⟨Nat.le_trans (h p hp).1 (by decide), Nat.le_trans (h p hp).2 (by decide)⟩))
              clear hb hkb hx hrd
              go_wp2_with fail
              refine Hlg.out.mono ?_
              rintro e wS ⟨hr, rfl⟩
              rcases hr with rfl | ⟨rfl, hx20, hsx⟩
              · go_wp2
                go_ret
                exact ⟨rfl, HB.out⟩
              have Hl2 := Lib.hid (Hlf.out hsx)
              clear hsx Hlf Hlg
              go_wp2_with fail
              refine Hl2.out.mono ?_
              rintro e wT ⟨rfl, hb⟩
              obtain ⟨⟨x1, x2⟩, hxx⟩ : ∃ X, X = lbF x := ⟨_, rfl⟩
              rw [← hxx, show fV (x1, x2) = .agg #[.int .i64 (x1 : Int), .int .i64 x2] from rfl]
              have HBt := Lib.hid (Below.alloc (Below.call HB.out hb HB.out.size) (Below.call HB.out hb HB.out.size).size (.cells #[.int .i64 (x1 : Int), .int .i64 x2] 36))
              have HKt := Lib.hid ((HK.out.below hb HK.out.lt).alloc (.cells #[.int .i64 (x1 : Int), .int .i64 x2] 36))
              have z0 := HKt.out.cell 0
              clear hb hxx Hl2
              go_wp2
              go_roundw
              case rel => exact ⟨i + 1, by omega, by go_num, HBt.out, HKt.out⟩
              case measure => simp [intOf]; omega
            obtain rfl : i = nn := by omega
            have hin' : ¬ (i : Int) < i := by omega
            have Hor := Lib.hid (order_any An i cn ls wr (HS.out _ hb).bk (HB0.out _ hb) (HL.out _ hb))
            rw [← HLL.out] at Hor
            clear hb hkb
            go_wp2_with fail
            refine Hor.out.mono ?_
            rintro e wU ⟨u, v2, rfl, hev, hu, _, hb⟩
            rw [Hof.out] at hev
            obtain rfl := hu (by rw [Hof.out]; decide)
            have HBu := Lib.hid (Below.call HB.out hb HB.out.size)
            have hku := HK.out.below hb HK.out.lt
            have Hfe := Lib.hid (faulted_ev v2 2 (-1) wU (HS.out _ HBu.out) (HB0.out _ HBu.out) hev)
            have z0 := hku.cell 0; have z1 := hku.cell 1
            clear hb hev hu hku Hor
            go_wp2_with fail
            refine Hfe.out.mono ?_
            rintro e wV ⟨rfl, hb⟩
            have HBv := Lib.hid (Below.call HBu.out hb HBu.out.size)
            clear hb
            go_wp2
            go_ret
            exact ⟨rfl, HBv.out⟩
        have h60' : ¬ (60 : Int) < nn := by omega
        have Hof := Lib.hid (show ordF L = frstL L nn by unfold ordF; rw [if_neg (by rw [HLl.out]; exact h60), HLl.out])
        go_wp2
        rw [← hga]
        clear hga
        go_loopw [13] (fun iv wr => ∃ (k : Nat) (g1 : Nat) (g2 : Int), k ≤ nn ∧ iv = .int .i64 k ∧ frstL L k = (g1, g2) ∧ Below w.heap.size w wr ∧ Blk wr ga 36 #[.int .i64 (g1 : Int), .int .i64 g2]) (fun iv _ => nn - (intOf iv).toNat)
        case atStart => exact ⟨0, 0, -1, Nat.zero_le _, rfl, rfl, HB9.out, HK9.out⟩
        case round =>
          rename World => wr
          obtain ⟨i, g1, g2, hi, rfl, hfr, hb, hkb⟩ := hrel
          have HB := Lib.hid hb; have HK := Lib.hid hkb; have Hfr := Lib.hid hfr
          have z0 := hkb.cell 0; have z1 := hkb.cell 1
          clear hfr
          by_cases hin : i < nn
          · have hin' : (i : Int) < nn := by omega
            obtain ⟨b0, o0, A', c', x, hA0, hx, x0, hrd⟩ := HLat.out _ hb i hin
            subst hA0
            have Hx := Lib.hid hx
            have Hlg := Lib.hid (longLabels_any A' x.length c' x wr hrd)
            have Hlf := Lib.hid (fun (h : LbSmall x) => labelsFault_u A' x.length c' x wr hrd (fun p hp => ⟨Nat.le_trans (h p hp).1 (by decide), Nat.le_trans (h p hp).2 (by decide)⟩))
            clear hb hkb hx hrd
            go_wp2_with fail
            refine Hlg.out.mono ?_
            rintro e wS ⟨hr, rfl⟩
            rcases hr with rfl | ⟨rfl, hx20, hsx⟩
            · go_wp2
              go_ret
              exact ⟨rfl, HB.out⟩
            have Hl2 := Lib.hid (Hlf.out hsx)
            clear hsx Hlf Hlg
            go_wp2_with fail
            refine Hl2.out.mono ?_
            rintro e wT ⟨rfl, hb⟩
            obtain ⟨⟨x1, x2⟩, hxx⟩ : ∃ X, X = lbF x := ⟨_, rfl⟩
            rw [← hxx, show fV (x1, x2) = .agg #[.int .i64 (x1 : Int), .int .i64 x2] from rfl]
            have Hxx := Lib.hid hxx
            have HBt := Lib.hid (Below.alloc (Below.call HB.out hb HB.out.size) (Below.call HB.out hb HB.out.size).size (.cells #[.int .i64 (x1 : Int), .int .i64 x2] 36))
            have HKt := Lib.hid ((HK.out.below hb HK.out.lt).alloc (.cells #[.int .i64 (x1 : Int), .int .i64 x2] 36))
            have z0 := HKt.out.cell 0; have z1 := HKt.out.cell 1; have r0 := HKt.out.frozen 0; have r1 := HKt.out.frozen 1
            clear hb hxx Hl2
            by_cases hg : g1 = 0
            · subst hg
              by_cases hx1 : x1 = 0
              · have hx1' : ¬ (0 : Int) < (x1 : Int) := by omega
                have Hn := Lib.hid (show frstL L (i + 1) = (0, g2) from by
                  rw [frstL_next (by rw [Hfr.out]) Hx.out (by rw [← Hxx.out]; exact hx1), ← frstL_zero (by rw [Hfr.out] : (frstL L i).1 = 0), Hfr.out])
                clear hx1
                go_wp2
                go_roundw
                case rel => exact ⟨i + 1, 0, g2, by omega, by go_num, Hn.out, HBt.out, HKt.out⟩
                case measure => simp [intOf]; omega
              · have hx1' : (0 : Int) < (x1 : Int) := by omega
                have Hn := Lib.hid (show frstL L (i + 1) = (x1, (i : Int)) from by
                  rw [frstL_hit (by rw [Hfr.out]) Hx.out (by rw [← Hxx.out]; exact hx1) (Nat.lt_succ_self i), ← Hxx.out])
                have HKu := Lib.hid ((HKt.out.set_ 0 (.int .i64 (x1 : Int))).set_ 1 (.int .i64 (i : Int)))
                have HBu := Lib.hid (Below.setCell (Below.setCell HBt.out (p := ⟨ga, 0, none⟩) Hg0.out (.int .i64 (x1 : Int))) (p := ⟨ga, 1, none⟩) Hg0.out (.int .i64 (i : Int)))
                clear hx1
                go_wp2
                go_roundw
                case rel => exact ⟨i + 1, x1, (i : Int), by omega, by go_num, Hn.out, HBu.out, HKu.out⟩
                case measure => simp [intOf]; omega
            · have hg' : ((g1 : Int) == 0) = false := by rw [beq_eq_false_iff_ne]; omega
              have Hn := Lib.hid (show frstL L (i + 1) = (g1, g2) from by rw [frstL_stop (by rw [Hfr.out]; exact hg) _ (Nat.le_succ i), Hfr.out])
              clear hg
              go_wp2
              go_roundw
              case rel => exact ⟨i + 1, g1, g2, by omega, by go_num, Hn.out, HBt.out, HKt.out⟩
              case measure => simp [intOf]; omega
          obtain rfl : i = nn := by omega
          have hin' : ¬ (i : Int) < i := by omega
          have Hor := Lib.hid (order_any An i cn ls wr (HS.out _ hb).bk (HB0.out _ hb) (HL.out _ hb))
          rw [← HLL.out] at Hor
          have Hoff := Lib.hid (show ordF L = (g1, g2) by rw [Hof.out, Hfr.out])
          clear hb hkb
          go_wp2_with fail
          refine Hor.out.mono ?_
          rintro e wU ⟨u, v2, rfl, hev, hu, hgd, hb⟩
          rw [Hoff.out] at hev
          have HBu := Lib.hid (Below.call HB.out hb HB.out.size)
          have hku := HK.out.below hb HK.out.lt
          have z0 := hku.cell 0; have z1 := hku.cell 1
          by_cases hg : g1 = 0
          case neg =>
            have hg' : (0 : Int) < (g1 : Int) := by omega
            obtain rfl := hu (by rw [Hoff.out]; exact hg)
            have Hfe := Lib.hid (faulted_ev v2 g1 g2 wU (HS.out _ HBu.out) (HB0.out _ HBu.out) hev)
            clear hb hev hu hku Hor hgd hg
            go_wp2_with fail
            refine Hfe.out.mono ?_
            rintro e wV ⟨rfl, hb⟩
            have HBv := Lib.hid (Below.call HBu.out hb HBu.out.size)
            clear hb
            go_wp2
            go_ret
            exact ⟨rfl, HBv.out⟩
          subst hg
          obtain rfl := hev.zero rfl
          obtain ⟨g, M, rfl, hgb, hMp, hMs⟩ := hgd (by rw [Hoff.out])
          rw [HLl.out] at hMp ⊢
          obtain ⟨hL60, hLok⟩ := ord_good (L := L) (by rw [Hoff.out])
          have HMp := Lib.hid hMp; have HMs := Lib.hid hMs; have Hgb := Lib.hid hgb; have HLok := Lib.hid hLok
          have HMl := Lib.hid (show M.length = i by rw [hMp.length_eq, List.length_range])
          have HMn := Lib.hid (show M.Nodup from hMp.nodup_iff.2 List.nodup_range)
          have HMlt := Lib.hid (fun x (hx : x ∈ M) => show x < i from List.mem_range.1 (hMp.mem_iff.1 hx))
          have m1 := mk_bo i (by omega)
          have ee : ((i : Int) != (i : Int)) = false := by rw [bne, beq_self_eq_true]; rfl
          have HBa := Lib.hid (Below.alloc HBu.out HBu.out.size (.cells (bC (List.replicate i false)) 4))
          have HSa := Lib.hid (show Blk (wU.alloc (.cells (bC (List.replicate i false)) 4)) wU.heap.size 4 (bC (seenK i M 0)) by rw [seen_zero]; exact Blk.new _ _ _)
          have HGa := Lib.hid (hgb.alloc (.cells (bC (List.replicate i false)) 4))
          have Hgs := Lib.hid (show g ≠ wU.heap.size from Nat.ne_of_lt hgb.lt)
          have Hs0 := Lib.hid HBu.out.size
          obtain ⟨sb, hsb⟩ : ∃ sb, sb = wU.heap.size := ⟨_, rfl⟩
          rw [← hsb] at HSa Hgs Hs0
          clear hb hev hu hku Hor hgd hMp hMs hgb hL60 hLok HK
          go_wp2
          rw [← hsb]
          clear hsb m1 z0 z1
          go_loopw [17] (fun iv wr => ∃ k : Nat, k ≤ i ∧ iv = .int .i64 k ∧ Below w.heap.size w wr ∧ Blk wr sb 4 (bC (seenK i M k)) ∧ Blk wr g 3 (nC M)) (fun iv _ => i - (intOf iv).toNat)
          case atStart => exact ⟨0, Nat.zero_le _, rfl, HBa.out, HSa.out, HGa.out⟩
          case round =>
            rename World => wq
            obtain ⟨j, hj, rfl, hb, hsk, hgk⟩ := hrel
            have HBq := Lib.hid hb; have HSq := Lib.hid hsk; have HGq := Lib.hid hgk
            by_cases hji : j < i
            case neg =>
              obtain rfl : j = i := by omega
              have hji' : ¬ (j : Int) < j := by omega
              clear hb hsk hgk
              go_wp2
              go_ret
              exact ⟨rfl, HBq.out⟩
            have hji' : (j : Int) < i := by omega
            obtain ⟨x, hx⟩ : ∃ x, M[j]? = some x := ⟨_, List.getElem?_eq_getElem (by rw [HMl.out]; exact hji)⟩
            have hxi := HMlt.out x (List.mem_of_getElem? hx)
            have x0 := nC_cell hgk hx
            have s0 : wq.cell? ⟨sb, x, none⟩ = some (.bool false) := by rw [hsk.cell x, bC_get, seen_get HMn.out hx hxi]; rfl
            have sf := hsk.frozen x
            have hx1 : ¬ (x : Int) < 0 := by omega
            have hx2 : ¬ (i : Int) ≤ (x : Int) := by omega
            have hx3 : (x : Int) < (i : Int) := by omega
            have HBn := Lib.hid (Below.setCell hb (p := ⟨sb, x, none⟩) Hs0.out (.bool true))
            have HSn := Lib.hid (show Blk (wq.setCell ⟨sb, x, none⟩ (.bool true)) sb 4 (bC (seenK i M (j + 1))) by rw [← seen_set hx hxi]; exact bC_put hsk x true)
            have HGn := Lib.hid (hgk.far (p := ⟨sb, x, none⟩) Hgs.out (.bool true))
            have Hx := Lib.hid hx
            have hgs : g ≠ sb := Hgs.out
            clear hb hsk hgk hx
            rcases Nat.eq_zero_or_pos j with rfl | hj0
            · go_wp2
              go_roundw
              case rel => exact ⟨1, by omega, rfl, HBn.out, HSn.out, HGn.out⟩
              case measure => simp [intOf]; omega
            obtain ⟨p, rfl⟩ : ∃ p, j = p + 1 := ⟨j - 1, by omega⟩
            obtain ⟨y, hy⟩ : ∃ y, M[p]? = some y := ⟨_, List.getElem?_eq_getElem (by rw [HMl.out]; omega)⟩
            have hyi := HMlt.out y (List.mem_of_getElem? hy)
            have Hy := Lib.hid hy
            have Hpre := Lib.hid (show pre (tOf (L.map textL)) y x from by
              obtain ⟨a1, a2⟩ := List.getElem?_eq_some_iff.1 hy
              obtain ⟨b1, b2⟩ := List.getElem?_eq_some_iff.1 Hx.out
              rw [← a2, ← b2]
              exact List.pairwise_iff_getElem.1 HMs.out p (p + 1) a1 b1 (Nat.lt_succ_self p))
            obtain ⟨wn, hwn⟩ : ∃ wn, wn = wq.setCell ⟨sb, x, none⟩ (.bool true) := ⟨_, rfl⟩
            have Hwn := Lib.hid hwn
            rw [← hwn] at HBn HSn HGn
            have y1 := nC_cell HGn.out hy
            have y1w := nC_cell HGq.out hy
            have y1s := y1
            rw [hwn] at y1s
            obtain ⟨b0, o0, A1, c1, ly, hA0, hly, z0, hrd⟩ := HLat.out _ HBn.out y hyi
            subst hA0
            obtain ⟨h6, hok⟩ := lb_good (HLok.out ly (List.mem_of_getElem? hly))
            have Ht1 := Lib.hid (labelsText_any A1 ly.length c1 ly wn hrd h6 hok)
            have Hly := Lib.hid hly
            have z0s := z0
            rw [hwn] at z0s
            have hpi : ((p + 1 : Nat) : Int) < (i : Int) := hji'
            have hpp : (p : Int) < (i : Int) := by omega
            rw [show ((p + 1 : Nat) : Int) = (p : Int) + 1 by omega] at *
            have i1 : (0 : Int) ≤ (p : Int) + 1 := by omega
            have i2 : ((p : Int) + 1 == 0) = false := by rw [beq_eq_false_iff_ne]; omega
            have i3 : IntKind.i64.wrap ((p : Int) + 1 - 1) = (p : Int) := by rw [IntKind.wrap_i64]; omega
            clear hy hly hrd h6 hok hwn
            go_wp2_with fail
            rw [← Hwn.out]
            refine Ht1.out.mono ?_
            rintro e wR ⟨rfl, hb⟩
            have HBr := Lib.hid (Below.call HBn.out hb HBn.out.size)
            have HSr := Lib.hid (HSn.out.below hb HSn.out.lt)
            have HGr := Lib.hid (HGn.out.below hb HGn.out.lt)
            have x1 := nC_cell HGr.out Hx.out
            obtain ⟨b0', o0', A2, c2, lx, hA0, hlx, z1, hrd⟩ := HLat.out _ HBr.out x hxi
            injection hA0 with e1; injection e1 with e1 e2
            subst e1; subst e2
            obtain ⟨h6, hok⟩ := lb_good (HLok.out lx (List.mem_of_getElem? hlx))
            have Ht2 := Lib.hid (labelsText_any A2 lx.length c2 lx wR hrd h6 hok)
            have Hlx := Lib.hid hlx
            clear hb hlx hrd h6 hok Ht1 z0 z0s y1 y1w y1s x0 s0 sf
            go_wp2_with fail
            refine Ht2.out.mono ?_
            rintro e wZ ⟨rfl, hb⟩
            have HBz := Lib.hid (Below.call HBr.out hb HBr.out.size)
            have HSz := Lib.hid (HSr.out.below hb HSr.out.lt)
            have HGz := Lib.hid (HGr.out.below hb HGr.out.lt)
            have xz := nC_cell HGz.out Hx.out
            have yz := nC_cell HGz.out Hy.out
            have tx : tOf (L.map textL) x = textL lx := by unfold tOf; rw [List.getD_eq_getElem?_getD, List.getElem?_map, Hlx.out]; rfl
            have ty : tOf (L.map textL) y = textL ly := by unfold tOf; rw [List.getD_eq_getElem?_getD, List.getElem?_map, Hly.out]; rfl
            have Hcs := Lib.hid (show (Op.bytesLess (B8 (textL ly)).toList (B8 (textL lx)).toList = true ∧ ((B8 (textL ly)).toList == (B8 (textL lx)).toList) = false) ∨ (Op.bytesLess (B8 (textL ly)).toList (B8 (textL lx)).toList = false ∧ ((B8 (textL ly)).toList == (B8 (textL lx)).toList) = true ∧ y < x) from by
              rw [B8_toList, B8_toList, bytesLess_lt]
              have h := Hpre.out
              unfold pre at h
              rw [tx, ty] at h
              rcases h with h | ⟨h, h2⟩
              · exact .inl ⟨decide_eq_true h, by rw [beq_eq_false_iff_ne]; intro e; rw [e] at h; exact lt_irrefl_bs _ h⟩
              · exact .inr ⟨decide_eq_false (fun k => by rw [h] at k; exact lt_irrefl_bs _ k), by rw [h]; exact beq_self_eq_true _, h2⟩)
            have Hn := Lib.hid (fun nq => show Below w.heap.size w (wZ.drewN nq) ∧ Blk (wZ.drewN nq) sb 4 (bC (seenK i M (p + 1 + 1))) ∧ Blk (wZ.drewN nq) g 3 (nC M) from ⟨Below.drewN HBz.out nq, HSz.out.drewN nq, HGz.out.drewN nq⟩)
            clear hb tx ty Ht2 z1 x1
            generalize B8 (textL ly) = sa at Hcs ⊢
            generalize B8 (textL lx) = sc at Hcs ⊢
            rcases Hcs.out with ⟨hl1, hl2⟩ | ⟨hl1, hl2, hyx⟩
            · go_wp2
              go_quiet (fail)
              go_wp2
              go_roundw
              case rel => exact ⟨p + 1 + 1, by omega, by go_num, (Hn.out nq).1, (Hn.out nq).2.1, (Hn.out nq).2.2⟩
              case measure => simp [intOf]; omega
            · have hd1 : ¬ (x : Int) < (y : Int) := by omega
              have hd2 : decide ((x : Int) < (y : Int)) = false := decide_eq_false hd1
              clear hyx
              go_wp2
              go_quiet (fail)
              go_wp2
              go_roundw
              case rel => exact ⟨p + 1 + 1, by omega, by go_num, (Hn.out nq).1, (Hn.out nq).2.1, (Hn.out nq).2.2⟩
              case measure => simp [intOf]; omega
end Go.Proofs.YtlpkmghhmpkddaaDoor
