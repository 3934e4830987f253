/- The reference's set of points, to be read; (*Set).Of, SetOfRows. -/
import Derived.Test.YtfkklcmepcocoaaGreatDoorMkcX
import Derived.Test.YtfkklcmepcocoaaGreatDoorMkgX
import Derived.Test.YtfkklcmepcocoaaGreatDoorMkhX
import Derived.Test.YtfkklcmepcocoaaGreatDoorMkiX
import Derived.Deep.DeepCutAuto
import Derived.Deep.Light
import Derived.BigRegion
import Derived.Test.YtfkklcmepcocoaaGreatDoorBlkMakeQX
namespace Go.Proofs.YtfkklcmepcocoaaGreatDoor
open Go.RowKit
set_option linter.unusedVariables false

/-- A set of points that can be read. -/
def SetRd (w : World) (B q : Nat) (S : List Rw) : Prop :=
  q < B ∧ ∃ (An : Option Addr) (cn : Nat) (Al : Option Addr) (cl : Nat) (vs : List Value), w.cell? ⟨q, 0, none⟩ = some (.slice An S.length cn) ∧ w.cell? ⟨q, 1, none⟩ = some (.slice Al S.length cl) ∧
    Rd w B 1 An S.length (txC (S.map Prod.fst)) ∧ Rd w B 1 Al S.length vs ∧ ∀ (i : Nat) (r : Rw), S[i]? = some r → ∃ (A : Option Addr) (c : Nat), vs[i]? = some (.slice A r.2.length c) ∧ r.2.length ≤ c ∧ Rd w B 2 A r.2.length (ptsC r.2)
theorem SetRd.below {w w' : World} {B C q : Nat} {S : List Rw} (h : SetRd w B q S) (hb : Below C w w') (hC : B ≤ C) : SetRd w' B q S := by
  obtain ⟨hq, An, cn, Al, cl, vs, h0, h1, h2, h3, h4⟩ := h
  refine ⟨hq, An, cn, Al, cl, vs, (hb.cell (p := ⟨q, 0, none⟩) (Nat.lt_of_lt_of_le hq hC)).trans h0, (hb.cell (p := ⟨q, 1, none⟩) (Nat.lt_of_lt_of_le hq hC)).trans h1, h2.belowOf hb hC, h3.belowOf hb hC, fun i r hr => ?_⟩
  obtain ⟨A, c, h5, h6, h7⟩ := h4 i r hr
  exact ⟨A, c, h5, h6, h7.belowOf hb hC⟩
theorem SetRd.more {w : World} {B B' q : Nat} {S : List Rw} (h : SetRd w B q S) (hC : B ≤ B') : SetRd w B' q S := by
  obtain ⟨hq, An, cn, Al, cl, vs, h0, h1, h2, h3, h4⟩ := h
  refine ⟨Nat.lt_of_lt_of_le hq hC, An, cn, Al, cl, vs, h0, h1, h2.more hC, h3.more hC, fun i r hr => ?_⟩
  obtain ⟨A, c, h5, h6, h7⟩ := h4 i r hr
  exact ⟨A, c, h5, h6, h7.more hC⟩
theorem SetRd.call {w w' : World} {q : Nat} {S : List Rw} (h : SetRd w w.heap.size q S) (hb : Below w.heap.size w w') : SetRd w' w'.heap.size q S := (h.below hb (Nat.le_refl _)).more hb.size
/-- What stands at place i. -/
theorem SetRd.at_ {w : World} {B q : Nat} {S : List Rw} (h : SetRd w B q S) {i : Nat} (hi : i < S.length) : ∃ b0 o0 cn b1 o1 cl r A c, S[i]? = some r ∧ w.cell? ⟨q, 0, none⟩ = some (.slice (some ⟨b0, o0, none⟩) S.length cn) ∧ w.cell? ⟨q, 1, none⟩ = some (.slice (some ⟨b1, o1, none⟩) S.length cl) ∧
    w.cell? ⟨b0, o0 + i, none⟩ = some (.string (B8 r.1)) ∧ w.cell? ⟨b1, o1 + i, none⟩ = some (.slice A r.2.length c) ∧ r.2.length ≤ c ∧ Rd w B 2 A r.2.length (ptsC r.2) := by
  obtain ⟨hq, An, cn, Al, cl, vs, h0, h1, h2, h3, h4⟩ := h
  obtain ⟨b0, o0, s, e0, _, hs, x0⟩ := h2.at1 hi
  obtain ⟨b1, o1, e1, _, hc1⟩ := h3.2 (by omega)
  have hr : S[i]? = some S[i] := List.getElem?_eq_getElem hi
  obtain ⟨A, c, h5, h6, h7⟩ := h4 i _ hr
  rw [List.getElem?_map, hr] at hs
  obtain rfl := Option.some.inj hs
  subst e0; subst e1
  exact ⟨b0, o0, cn, b1, o1, cl, _, A, c, hr, h0, h1, x0, hc1 i _ h5, h6, h7⟩
/-- The two slices. -/
theorem SetRd.hd {w : World} {B q : Nat} {S : List Rw} (h : SetRd w B q S) : ∃ An cn Al cl, w.cell? ⟨q, 0, none⟩ = some (.slice An S.length cn) ∧ w.cell? ⟨q, 1, none⟩ = some (.slice Al S.length cl) := by
  obtain ⟨hq, An, cn, Al, cl, vs, h0, h1, _⟩ := h
  exact ⟨An, cn, Al, cl, h0, h1⟩
theorem SetAt.rd {w : World} {G : Nat → Prop} {q : Nat} {sv lv : Value} {N : List Bs} {Q : List PtV} {S : List Rw} (h : SetAt w G q sv lv N Q) (hs : SetIs N Q S) : SetRd w w.heap.size q S := by
  obtain ⟨An, cn, rfl, _, _, hn⟩ := own_form h.nms
  obtain ⟨Al, cl, rfl, _, _, hl⟩ := own_form h.rows
  obtain ⟨l1, l2⟩ := hs.len
  have e0 := h.hd.cell 0
  have e1 := h.hd.cell 1
  rw [l1] at e0 hn
  rw [l2] at e1 hl
  refine ⟨h.hd.lt, An, cn, Al, cl, Q.map (·.v), e0, e1, by rw [← hs.1]; exact hn, hl, fun i r hr => ?_⟩
  have hp : (Q.map (·.pts))[i]? = some r.2 := by rw [hs.2, List.getElem?_map, hr]; rfl
  rw [List.getElem?_map] at hp
  obtain ⟨x, hx, hxp⟩ := Option.map_eq_some_iff.1 hp
  obtain ⟨A, c, hv, hc, _, hr2⟩ := own_form (h.pts x (List.mem_of_getElem? hx))
  rw [hxp] at hv hr2 hc
  exact ⟨A, c, by rw [List.getElem?_map, hx]; exact congrArg some hv, hc, hr2⟩
theorem ptsOf_none2 {S : List Rw} {s : Bs} (h : ∀ (j : Nat) (r : Rw), S[j]? = some r → r.1 ≠ s) : ptsOf S s = [] := ptsOf_none fun r hr => by
  obtain ⟨j, hj, rfl⟩ := List.getElem_of_mem hr
  exact h j _ (List.getElem?_eq_getElem hj)
def GetPost (L : List (Int × Int)) (w : World) (e : Ending) (w' : World) : Prop := ∃ (A : Option Addr) (c : Nat), e = .returned (.slice A L.length c) ∧ Rd w' w.heap.size 2 A L.length (ptsC L) ∧ Below w.heap.size w w'
set_option maxRecDepth 100000 in
set_option maxHeartbeats 4000000 in
theorem setGet_any (q : Nat) (S : List Rw) (s : Bs) (w : World) (hS : SetRd w w.heap.size q S) (hn : S.length ≤ 1000) :
    Calls Tryz.prog 43 #[.pointer (some ⟨q, 0, none⟩), .string (B8 s)] w fun e w' => GetPost (ptsOf S s) w e w' := by
  have HS := Lib.hid (fun W (hb : Below w.heap.size w W) => hS.below hb (Nat.le_refl _))
  obtain ⟨n, hnn⟩ : ∃ n, n = S.length := ⟨_, rfl⟩
  have Hn := Lib.hid hnn
  rw [← hnn] at hn
  clear hS hnn
  go_enter Tryz.func43, Tryz.ntmps43
  go_wp2
  go_loopw [5] (fun kv wr => ∃ k : Nat, k ≤ n ∧ kv = .int .i64 k ∧ Below w.heap.size w wr ∧ ∀ (j : Nat) (r : Rw), j < k → S[j]? = some r → r.1 ≠ s) (fun kv _ => n - (intOf kv).toNat)
  case atStart => exact ⟨0, Nat.zero_le _, rfl, Below.refl _ _, fun j r h => absurd h (Nat.not_lt_zero _)⟩
  case round =>
    obtain ⟨k, hk, rfl, hb, hpre⟩ := hrel
    have HB := Lib.hid hb; have Hpre := Lib.hid hpre
    have hS := HS.out _ hb
    by_cases hkn : k < n
    · have hkn' : (k : Int) < n := by omega
      obtain ⟨b0, o0, cn, b1, o1, cl, r, A, c, hr, z0, z1, x0, y0, hc, hrd⟩ := hS.at_ (i := k) (by rw [← Hn.out]; exact hkn)
      rw [← Hn.out] at z0 z1
      have Hr := Lib.hid hr; have Hrd := Lib.hid hrd
      clear hb hpre hS hr hrd
      by_cases hn : r.1 = s
      · have hq : ((B8 r.1).toList == (B8 s).toList) = true := by rw [hn]; exact beq_self_eq_true _
        have Hf := Lib.hid (show ptsOf S s = r.2 from ptsOf_hit Hr.out hn (fun j x hj hx => Hpre.out j x hj hx))
        clear hn
        go_wp2
        go_ret
        exact ⟨A, c, by rw [Hf.out]; rfl, by rw [Hf.out]; exact Hrd.out, HB.out⟩
      · have hq : ((B8 r.1).toList == (B8 s).toList) = false := by rw [beq_eq_false_iff_ne, B8_toList, B8_toList]; exact hn
        have Hnx := Lib.hid (show ∀ (j : Nat) (x : Rw), j < k + 1 → S[j]? = some x → x.1 ≠ s from fun j x hj hx => by
          rcases Nat.lt_or_ge j k with h | h
          · exact Hpre.out j x h hx
          · obtain rfl : j = k := by omega
            rw [Hr.out] at hx
            injection hx with hx
            rw [← hx]; exact hn)
        clear hn
        go_wp2
        go_roundw
        case rel => exact ⟨k + 1, by omega, by go_num, HB.out, Hnx.out⟩
        case measure => simp [intOf]; omega
    · obtain rfl : k = n := by omega
      have hkn' : ¬ (k : Int) < k := by omega
      obtain ⟨An, cn, Al, cl, z0, z1⟩ := hS.hd
      rw [← Hn.out] at z0 z1
      have Hno := Lib.hid (show ptsOf S s = [] from ptsOf_none2 fun j r hr => Hpre.out j r (by rw [Hn.out]; exact (List.getElem?_eq_some_iff.1 hr).1) hr)
      clear hb hpre hS
      go_wp2
      go_ret
      exact ⟨none, 0, by rw [Hno.out]; rfl, by rw [Hno.out]; exact Rd.nil, HB.out⟩
end Go.Proofs.YtfkklcmepcocoaaGreatDoor

namespace Go.Proofs.YtfkklcmepcocoaaGreatDoor
open Go.RowKit
set_option linter.unusedVariables false

/-- A set of points that can be read: no word on the points' room. -/
def SetRw (w : World) (B q : Nat) (S : List Rw) : Prop :=
  q < B ∧ ∃ (An : Option Addr) (cn : Nat) (Al : Option Addr) (cl : Nat) (vs : List Value), w.cell? ⟨q, 0, none⟩ = some (.slice An S.length cn) ∧ w.cell? ⟨q, 1, none⟩ = some (.slice Al S.length cl) ∧
    Rd w B 1 An S.length (txC (S.map Prod.fst)) ∧ Rd w B 1 Al S.length vs ∧ ∀ (i : Nat) (r : Rw), S[i]? = some r → ∃ (A : Option Addr) (c : Nat), vs[i]? = some (.slice A r.2.length c) ∧ Rd w B 2 A r.2.length (ptsC r.2)
theorem SetRd.rw {w : World} {B q : Nat} {S : List Rw} (h : SetRd w B q S) : SetRw w B q S := by
  obtain ⟨hq, An, cn, Al, cl, vs, h0, h1, h2, h3, h4⟩ := h
  refine ⟨hq, An, cn, Al, cl, vs, h0, h1, h2, h3, fun i r hr => ?_⟩
  obtain ⟨A, c, h5, h6, h7⟩ := h4 i r hr
  exact ⟨A, c, h5, h7⟩
theorem SetRw.below {w w' : World} {B C q : Nat} {S : List Rw} (h : SetRw w B q S) (hb : Below C w w') (hC : B ≤ C) : SetRw w' B q S := by
  obtain ⟨hq, An, cn, Al, cl, vs, h0, h1, h2, h3, h4⟩ := h
  refine ⟨hq, An, cn, Al, cl, vs, (hb.cell (p := ⟨q, 0, none⟩) (Nat.lt_of_lt_of_le hq hC)).trans h0, (hb.cell (p := ⟨q, 1, none⟩) (Nat.lt_of_lt_of_le hq hC)).trans h1, h2.belowOf hb hC, h3.belowOf hb hC, fun i r hr => ?_⟩
  obtain ⟨A, c, h5, h7⟩ := h4 i r hr
  exact ⟨A, c, h5, h7.belowOf hb hC⟩
theorem SetRw.more {w : World} {B B' q : Nat} {S : List Rw} (h : SetRw w B q S) (hC : B ≤ B') : SetRw w B' q S := by
  obtain ⟨hq, An, cn, Al, cl, vs, h0, h1, h2, h3, h4⟩ := h
  refine ⟨Nat.lt_of_lt_of_le hq hC, An, cn, Al, cl, vs, h0, h1, h2.more hC, h3.more hC, fun i r hr => ?_⟩
  obtain ⟨A, c, h5, h7⟩ := h4 i r hr
  exact ⟨A, c, h5, h7.more hC⟩
theorem SetRw.call {w w' : World} {q : Nat} {S : List Rw} (h : SetRw w w.heap.size q S) (hb : Below w.heap.size w w') : SetRw w' w'.heap.size q S := (h.below hb (Nat.le_refl _)).more hb.size
/-- What stands at place i. -/
theorem SetRw.at_ {w : World} {B q : Nat} {S : List Rw} (h : SetRw w B q S) {i : Nat} (hi : i < S.length) : ∃ b0 o0 cn b1 o1 cl r A c, S[i]? = some r ∧ (b0 < B ∧ b1 < B) ∧ w.cell? ⟨q, 0, none⟩ = some (.slice (some ⟨b0, o0, none⟩) S.length cn) ∧ w.cell? ⟨q, 1, none⟩ = some (.slice (some ⟨b1, o1, none⟩) S.length cl) ∧
    w.cell? ⟨b0, o0 + i, none⟩ = some (.string (B8 r.1)) ∧ w.cell? ⟨b1, o1 + i, none⟩ = some (.slice A r.2.length c) ∧ Rd w B 2 A r.2.length (ptsC r.2) := by
  obtain ⟨hq, An, cn, Al, cl, vs, h0, h1, h2, h3, h4⟩ := h
  obtain ⟨b0, o0, s, e0, hb0, hs, x0⟩ := h2.at1 hi
  obtain ⟨b1, o1, e1, hb1, hc1⟩ := h3.2 (by omega)
  have hr : S[i]? = some S[i] := List.getElem?_eq_getElem hi
  obtain ⟨A, c, h5, h7⟩ := h4 i _ hr
  rw [List.getElem?_map, hr] at hs
  obtain rfl := Option.some.inj hs
  subst e0; subst e1
  exact ⟨b0, o0, cn, b1, o1, cl, _, A, c, hr, ⟨hb0, hb1⟩, h0, h1, x0, hc1 i _ h5, h7⟩
/-- The string one place before, too. -/
theorem SetRw.nm_ {w : World} {B q : Nat} {S : List Rw} (h : SetRw w B q S) {b0 o0 n cn j : Nat} (h0 : w.cell? ⟨q, 0, none⟩ = some (.slice (some ⟨b0, o0, none⟩) n cn)) {r : Rw} (hr : S[j]? = some r) : w.cell? ⟨b0, o0 + j, none⟩ = some (.string (B8 r.1)) := by
  obtain ⟨c0, p0, cm, _, _, _, r', _, _, hr', _, h0', _, x0, _⟩ := h.at_ (List.getElem?_eq_some_iff.1 hr).1
  rw [h0] at h0'
  injection h0' with e; injection e with e; injection e with e; injection e with e e2
  subst e; subst e2
  obtain rfl := Option.some.inj (hr.symm.trans hr')
  exact x0
/-- The two slices. -/
theorem SetRw.hd {w : World} {B q : Nat} {S : List Rw} (h : SetRw w B q S) : ∃ An cn Al cl, w.cell? ⟨q, 0, none⟩ = some (.slice An S.length cn) ∧ w.cell? ⟨q, 1, none⟩ = some (.slice Al S.length cl) := by
  obtain ⟨hq, An, cn, Al, cl, vs, h0, h1, _⟩ := h
  exact ⟨An, cn, Al, cl, h0, h1⟩
/-- The set that SetOfRows makes, in the midst. -/
structure RsI (w W : World) (q : Nat) (sv lv : Value) (N : List Bs) (vs : List Value) : Prop where
  hd : Blk W q 152 #[sv, lv]
  nm : W.ownsRow w.heap.size 9 1 sv N.length (txC N)
  rw : W.ownsRow w.heap.size 33 1 lv vs.length vs
  hq : w.heap.size ≤ q
  bl : Below w.heap.size w W
theorem RsI.name {w W wa : World} {q : Nat} {sv sv' lv : Value} {N : List Bs} {vs : List Value} (h : RsI w W q sv lv N vs) {s : Bs} (hf : Fr (fun k => sv.ownBlock = some k) W wa) (ho : wa.ownsRow w.heap.size 9 1 sv' (N.length + 1) (txC N ++ [.string (B8 s)])) :
    (wa.cell? ⟨q, 0, none⟩ = some sv ∧ wa.frozen? ⟨q, 0, none⟩ = false) ∧ RsI w (wa.setCell ⟨q, 0, none⟩ sv') q sv' lv (N ++ [s]) vs := by
  have hS : Strange (fun k => sv.ownBlock = some k) W [33, 152] := Strange.own h.nm (by decide)
  have hqb := hf.blk h.hd (hS.not h.hd (by simp))
  have hr := hf.own h.rw (hS.notOwn h.rw (by simp))
  have hz : Fr (fun k => k = q) wa (wa.setCell ⟨q, 0, none⟩ sv') := Fr.setCell (S := fun k => k = q) (Fr.refl _ _) (p := ⟨q, 0, none⟩) (.inr rfl) sv'
  have hT : Strange (fun k => k = q) wa [33, 9] := Strange.blk hqb (by decide)
  have hhq := h.hq
  have hfr : Fr (fun k => w.heap.size ≤ k) w wa := Fr.trans ((Fr.ofBelow h.bl).mono (fun i hi e => e.elim)) hf (fun i hi e => absurd (own_lt h.nm i e).1 (by omega))
  have hfr2 : Fr (fun k => w.heap.size ≤ k) w (wa.setCell ⟨q, 0, none⟩ sv') := Fr.trans hfr hz (fun i hi e => by subst e; omega)
  exact ⟨⟨hqb.cell 0, hqb.frozen 0⟩, ⟨hqb.set_ 0 sv', by rw [List.length_append, List.length_singleton, txC_snoc]; exact own_far ho hz hT (by simp), own_far hr hz hT (by simp), hhq, hfr2.below (Nat.le_refl _) (fun k hk e => by omega)⟩⟩
theorem RsI.row {w W wa : World} {q : Nat} {sv lv lv' u : Value} {N : List Bs} {vs : List Value} (h : RsI w W q sv lv N vs) (hf : Fr (fun k => lv.ownBlock = some k) W wa) (ho : wa.ownsRow w.heap.size 33 1 lv' (vs.length + 1) (vs ++ [u])) :
    (wa.cell? ⟨q, 1, none⟩ = some lv ∧ wa.frozen? ⟨q, 1, none⟩ = false) ∧ RsI w (wa.setCell ⟨q, 1, none⟩ lv') q sv lv' N (vs ++ [u]) := by
  have hS : Strange (fun k => lv.ownBlock = some k) W [9, 152] := Strange.own h.rw (by decide)
  have hqb := hf.blk h.hd (hS.not h.hd (by simp))
  have hr := hf.own h.nm (hS.notOwn h.nm (by simp))
  have hz : Fr (fun k => k = q) wa (wa.setCell ⟨q, 1, none⟩ lv') := Fr.setCell (S := fun k => k = q) (Fr.refl _ _) (p := ⟨q, 1, none⟩) (.inr rfl) lv'
  have hT : Strange (fun k => k = q) wa [33, 9] := Strange.blk hqb (by decide)
  have hhq := h.hq
  have hfr : Fr (fun k => w.heap.size ≤ k) w wa := Fr.trans ((Fr.ofBelow h.bl).mono (fun i hi e => e.elim)) hf (fun i hi e => absurd (own_lt h.rw i e).1 (by omega))
  have hfr2 : Fr (fun k => w.heap.size ≤ k) w (wa.setCell ⟨q, 1, none⟩ lv') := Fr.trans hfr hz (fun i hi e => by subst e; omega)
  exact ⟨⟨hqb.cell 1, hqb.frozen 1⟩, ⟨hqb.set_ 1 lv', own_far hr hz hT (by simp), by rw [List.length_append, List.length_singleton]; exact own_far ho hz hT (by simp), hhq, hfr2.below (Nat.le_refl _) (fun k hk e => by omega)⟩⟩
theorem RsI.rd {w W : World} {q : Nat} {sv lv : Value} {A : Option Addr} {rows : List RowV} (h : RsI w W q sv lv (rows.map RowV.nm) (rows.map RowV.v)) (hr : ∀ r ∈ rows, ∃ A' c', r.v = .slice A' r.pts.length c' ∧ Rd w w.heap.size 2 A' r.pts.length (ptsC r.pts)) : SetRw W W.heap.size q (rows.map rowP2) := by
  obtain ⟨An, cn, rfl, _, _, hn⟩ := own_form h.nm
  obtain ⟨Al, cl, rfl, _, _, hl⟩ := own_form h.rw
  have e0 := h.hd.cell 0
  have e1 := h.hd.cell 1
  have l1 : (rows.map RowV.nm).length = (rows.map rowP2).length := by rw [List.length_map, List.length_map]
  have l2 : (rows.map RowV.v).length = (rows.map rowP2).length := by rw [List.length_map, List.length_map]
  rw [l1] at e0 hn
  rw [l2] at e1 hl
  refine ⟨h.hd.lt, An, cn, Al, cl, rows.map RowV.v, e0, e1, ?_, hl, fun i r hi => ?_⟩
  · rw [show (rows.map rowP2).map Prod.fst = rows.map RowV.nm by rw [List.map_map]; rfl]
    exact hn
  · rw [List.getElem?_map] at hi
    obtain ⟨x, hx, rfl⟩ := Option.map_eq_some_iff.1 hi
    obtain ⟨A', c', e, hrd⟩ := hr x (List.mem_of_getElem? hx)
    exact ⟨A', c', by rw [List.getElem?_map, hx]; exact congrArg some e, (hrd.belowOf h.bl (Nat.le_refl _)).more h.bl.size⟩
def RsPost (S : List Rw) (w : World) (e : Ending) (w' : World) : Prop := ∃ q, e = .returned (.pointer (some ⟨q, 0, none⟩)) ∧ SetRw w' w'.heap.size q S ∧ Below w.heap.size w w'
theorem roomK {a k n : Nat} (h : a = k) (h2 : k < n) (h3 : n ≤ 100000) : a + 1 ≤ maxLen ∧ (a + 1) * 16 ≤ 140737488355328 ∧ (a + 1) * 24 ≤ 140737488355328 := by unfold maxLen; omega
theorem take_map {α β : Type} {f : α → β} {l : List α} {k : Nat} {x : α} (h : l[k]? = some x) : (l.take (k + 1)).map f = (l.take k).map f ++ [f x] := by
  rw [take_snoc h, List.map_append]; rfl
set_option maxRecDepth 100000 in
set_option maxHeartbeats 8000000 in
theorem setRows_any (A : Option Addr) (n c : Nat) (rows : List RowV) (w : World) (hA : RowsRd w w.heap.size A n rows) (hn : n ≤ 100000) :
    Calls Tryz.prog 40 #[.slice A n c] w fun e w' => RsPost (rows.map rowP2) w e w' := by
  have Hln := Lib.hid hA.len
  have Hpt := Lib.hid hA.2
  have Hat := Lib.hid (fun W (hb : Below w.heap.size w W) (i : Nat) (hi : i < n) => (hA.below hb (Nat.le_refl _)).1.at2 hi)
  clear hA
  obtain ⟨i1, hi1, hy0, hy1, hy2⟩ := info_parts infoTx
  have Hi1 := Lib.hid hi1; have Hy0 := Lib.hid hy0; have Hy1 := Lib.hid hy1; have Hy2 := Lib.hid hy2
  obtain ⟨i2, hi2, hx0, hx1, hx2⟩ := info_parts infoSl
  have Hi2 := Lib.hid hi2; have Hx0 := Lib.hid hx0; have Hx2 := Lib.hid hx1; have Hx3 := Lib.hid hx2
  clear hi1 hy0 hy1 hy2 hi2 hx0 hx1 hx2
  have H0 := Lib.hid (show RsI w (w.alloc (.cells #[.slice none 0 0, .slice none 0 0] 152)) w.heap.size (.slice none 0 0) (.slice none 0 0) [] [] from
    ⟨Blk.new _ _ _, World.ownsRow_nil _ _ _ _, World.ownsRow_nil _ _ _ _, Nat.le_refl _, Below.alloc (Below.refl _ _) (Nat.le_refl _) _⟩)
  go_enter Tryz.func40, Tryz.ntmps40
  go_wp2
  obtain ⟨q, hq⟩ : ∃ q, q = w.heap.size := ⟨_, rfl⟩
  have H0 := Lib.hid (show RsI w (w.alloc (.cells #[.slice none 0 0, .slice none 0 0] 152)) q (.slice none 0 0) (.slice none 0 0) [] [] by rw [hq]; exact H0.out)
  rw [← hq]
  clear hq
  go_loopw [4] (fun iv wr => ∃ (k : Nat) (sv lv : Value), k ≤ n ∧ iv = .int .i64 k ∧ RsI w wr q sv lv ((rows.take k).map RowV.nm) ((rows.take k).map RowV.v)) (fun iv _ => n - (intOf iv).toNat)
  case atStart => exact ⟨0, _, _, Nat.zero_le _, rfl, H0.out⟩
  case round =>
    rename World => wo
    obtain ⟨k, sv, lv, hk, rfl, hI⟩ := hrel
    obtain ⟨As, cs, rfl, _, _, _⟩ := own_form hI.nm
    obtain ⟨Al, cl, rfl, _, _, _⟩ := own_form hI.rw
    have HI := Lib.hid hI
    by_cases hkn : k < n
    case neg =>
      obtain rfl : k = n := by omega
      have hkn' : ¬ (k : Int) < k := by omega
      have Hz := Lib.hid (show RsPost (rows.map rowP2) w (.returned (.pointer (some ⟨q, 0, none⟩))) wo from ⟨q, rfl, by
        have h1 := HI.out
        rw [List.take_of_length_le (by rw [Hln.out]; exact Nat.le_refl _)] at h1
        exact h1.rd (A := A) Hpt.out, HI.out.bl⟩)
      clear hI
      go_wp2
      go_ret
      exact Hz.out
    have hkn' : (k : Int) < n := by omega
    obtain ⟨b0, o0, r, hA0, had0, hr, x0, y0⟩ := Hat.out _ hI.bl k hkn
    subst hA0
    have e1 := take_map (f := RowV.nm) hr
    have e2 := take_map (f := RowV.v) hr
    have hl1 : ((rows.take k).map RowV.nm).length = k := by rw [List.length_map, List.length_take]; have := Hln.out; omega
    have hl2 : ((rows.take k).map RowV.v).length = k := by rw [List.length_map, List.length_take]; have := Hln.out; omega
    obtain ⟨N, hN⟩ : ∃ N, N = (rows.take k).map RowV.nm := ⟨_, rfl⟩
    obtain ⟨V, hV⟩ : ∃ V, V = (rows.take k).map RowV.v := ⟨_, rfl⟩
    rw [← hN] at e1 hl1 HI
    rw [← hV] at e2 hl2 HI
    have E1 := Lib.hid e1; have E2 := Lib.hid e2
    have z0 := HI.out.hd.cell 0
    have z1 := HI.out.hd.cell 1
    obtain ⟨hk63, hk8, _⟩ := roomK hl1 hkn hn
    obtain ⟨hr63, _, hr8⟩ := roomK hl2 hkn hn
    have hqw : q < wo.heap.size := HI.out.hd.lt
    obtain ⟨Ap, cp, hrv, _⟩ := Hpt.out r (List.mem_of_getElem? hr)
    obtain ⟨L, hL⟩ : ∃ L, L = r.pts.length := ⟨_, rfl⟩
    rw [hrv, ← hL] at y0
    have Hrv := Lib.hid (show r.v = .slice Ap L cp by rw [hrv, hL])
    have Hat1 := Lib.hid (fun W (hb : Below w.heap.size w W) => show W.cell? ⟨b0, o0 + k * 2 + 1, none⟩ = some (.slice Ap L cp) from by
      obtain ⟨b0', o0', r', hA0', had0', hr', x0', y0'⟩ := Hat.out _ hb k hkn
      injection hA0' with h1
      injection h1 with h1 h2
      subst h1; subst h2
      obtain rfl := Option.some.inj (hr.symm.trans hr')
      rw [Hrv.out] at y0'
      exact y0')
    generalize hst : B8 r.nm = st at x0
    have Hst := Lib.hid hst
    have HqF := Lib.hid (fun W (hf : Fr (fun _ => False) wo W) => Nat.le_trans (Nat.le_trans HI.out.hq (Nat.le_of_lt hqw)) hf.size)
    have HS := Lib.hid (fun W (hf : Fr (fun _ => False) wo W) => hf.own HI.out.nm (fun _ _ h => h))
    have HNx := Lib.hid (fun W wa v' (hf : Fr (fun _ => False) wo W) (hgr : W.grownBy wa (Value.slice As N.length cs).ownBlock) (hown : wa.ownsRow w.heap.size 9 1 v' (N.length + 1) (txC N ++ [.string st])) =>
      HI.out.name (s := r.nm) ((hf.mono (fun _ _ h => h.elim)).grown hgr (fun k hk => .inr hk)) (by rw [Hst.out]; exact hown))
    have hcs1 := str_one1 st
    clear hI hst hrv hL hr had0 e1 e2 z1 y0 hN hV hl1 hl2
    go_upto_region 5 with fail
    go_cut [] (fun wx => ∃ sv3, RsI w wx q sv3 (.slice Al V.length cl) (N ++ [r.nm]) V)
    case first =>
      go_region_law ((refine step_append_rd _ (by rfl) (.tmp 17) (.tmp 23) _ (by rfl) w.heap.size 9 i1 (.string ⟨#[]⟩) 1 16 Tryz.underlying25 Hi1.out Hy0.out Hy1.out Hy2.out (by rfl) (by decide) (.slice As N.length cs) N.length (txC N) (by rfl) (HS.out _ (by repeat (first | exact Fr.refl _ _ | refine Fr.drew ?_ | refine Fr.alloc ?_ _))) _ (some ⟨wo.heap.size, 0, none⟩) 1 1 [.string st] (by rfl) (one_cell wo 9 (.string st)) hcs1 hk63 hk8 (HqF.out _ (by repeat (first | exact Fr.refl _ _ | refine Fr.drew ?_ | refine Fr.alloc ?_ _))) ?_; intro v' wa hown hgr hat; obtain ⟨A2, c2, rfl, _, _, _⟩ := own_form hown; have HQ := Lib.hid (HNx.out _ wa _ (by repeat (first | exact Fr.refl _ _ | refine Fr.drew ?_ | refine Fr.alloc ?_ _)) hgr hown); clear hown hat hgr; obtain ⟨⟨y0, y1⟩, _⟩ := HQ.out))
      all_goals (go_wp2_with fail; go_meet; exact ⟨_, HQ.out.2⟩)
    case rest =>
      obtain ⟨sv3, hI7⟩ := hcut
      have HI7 := Lib.hid hI7
      rename World => w7
      apply_assumption
      have z1 : w7.cell? ⟨q, 1, none⟩ = some (.slice Al V.length cl) := hI7.hd.cell 1
      have y0 := Hat1.out w7 hI7.bl
      have hqw7 : q < w7.heap.size := hI7.hd.lt
      have HqF7 := Lib.hid (fun W (hf : Fr (fun _ => False) w7 W) => Nat.le_trans (Nat.le_trans HI7.out.hq (Nat.le_of_lt hqw7)) hf.size)
      have HS7 := Lib.hid (fun W (hf : Fr (fun _ => False) w7 W) => hf.own HI7.out.rw (fun _ _ h => h))
      have HN7 := Lib.hid (fun W wa v' (hf : Fr (fun _ => False) w7 W) (hgr : W.grownBy wa (Value.slice Al V.length cl).ownBlock) (hown : wa.ownsRow w.heap.size 33 1 v' (V.length + 1) (V ++ [.slice Ap L cp])) =>
        HI7.out.row ((hf.mono (fun _ _ h => h.elim)).grown hgr (fun k hk => .inr hk)) hown)
      have H1s : ∀ u ∈ [Value.slice Ap L cp], u.oneCell' = true := by intro u hu; simp at hu; subst hu; rfl
      clear hI7 HS HNx HI z0 x0 hk63 hk8 HqF
      go_upto_region 6 with fail
      go_region_law ((refine step_append_rd _ (by rfl) (.tmp 31) (.tmp 37) _ (by rfl) w.heap.size 33 i2 (.slice none 0 0) 1 24 Tryz.underlying150 Hi2.out Hx0.out Hx2.out Hx3.out (by rfl) (by decide) (.slice Al V.length cl) V.length V (by rfl) (HS7.out _ (by repeat (first | exact Fr.refl _ _ | refine Fr.drew ?_ | refine Fr.alloc ?_ _))) _ (some ⟨w7.heap.size, 0, none⟩) 1 1 [.slice Ap L cp] (by rfl) (one_cell w7 33 (.slice Ap L cp)) H1s hr63 hr8 (HqF7.out _ (by repeat (first | exact Fr.refl _ _ | refine Fr.drew ?_ | refine Fr.alloc ?_ _))) ?_; intro v' wa hown hgr hat; obtain ⟨A2, c2, rfl, _, _, _⟩ := own_form hown; have HQ := Lib.hid (HN7.out _ wa _ (by repeat (first | exact Fr.refl _ _ | refine Fr.drew ?_ | refine Fr.alloc ?_ _)) hgr hown); clear hown hat hgr; obtain ⟨⟨y0, y1⟩, _⟩ := HQ.out))
      all_goals
        clear HS7 HN7 HI7 HqF7
        go_wp2
        go_roundw
        case rel =>
          go_light
          exact ⟨k + 1, sv3, .slice A2 (V.length + 1) c2, hkn, by go_num, by rw [E1.out, E2.out, Hrv.out]; exact HQ.out.2⟩
        case measure =>
          go_light
          simp [intOf]; omega
end Go.Proofs.YtfkklcmepcocoaaGreatDoor

namespace Go.Proofs.YtfkklcmepcocoaaGreatDoor
open Go.RowKit
set_option linter.unusedVariables false

theorem pointsFault_u (A : Option Addr) (n c : Nat) (l : List (Int × Int)) (w : World) (hA : Rd w w.heap.size 2 A n (ptsC l)) :
    Calls Tryz.prog 81 #[.slice A n c] w fun e w' => e = .returned (fV (ptF l)) ∧ Below w.heap.size w w' := by
  have hlen : l.length = n := by have := hA.1; rw [flat_len (fun p : Int × Int => [Value.int .i64 p.1, Value.int .u64 p.2]) 2 (fun _ => rfl)] at this; omega
  rcases ptF_cases l with ⟨h, e⟩ | ⟨h, i, h1, h2, h3, e⟩ | ⟨h, h2, e⟩
  · refine (pointsFault_long A n c w (by omega)).mono ?_
    rintro e' w' ⟨rfl, hb⟩
    exact ⟨by rw [e]; rfl, hb⟩
  · refine (pointsFault_any A n c l i w hA (by omega) (by omega) h2 (fun _ => h3)).mono ?_
    rintro e' w' ⟨rfl, hb⟩
    exact ⟨by rw [e, pfV_bad l n i _ (by omega) rfl]; rfl, hb⟩
  · refine (pointsFault_any A n c l n w hA (by omega) (Nat.le_refl _) (fun j hj => h2 j (by omega)) (fun h => absurd h (Nat.lt_irrefl _))).mono ?_
    rintro e' w' ⟨rfl, hb⟩
    exact ⟨by rw [e, pfV_ok]; rfl, hb⟩
end Go.Proofs.YtfkklcmepcocoaaGreatDoor
