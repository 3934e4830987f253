/- The reference's set of points, to be read; (*Set).Of, SetOfRows. -/
import Derived.Test.YtpbgonpmpjpljaaGreatDoorMkeX
import Derived.Test.YtpbgonpmpjpljaaGreatDoorMklX
import Derived.Test.YtpbgonpmpjpljaaGreatDoorMkmX
import Derived.Test.YtpbgonpmpjpljaaGreatDoorMknX
import Derived.Deep.DeepCutAuto
import Derived.Deep.Light
import Derived.BigRegion
import Derived.Test.YtpbgonpmpjpljaaGreatDoorBlkMakeQX
namespace Go.Proofs.YtpbgonpmpjpljaaGreatDoor
open Go.RowKit
set_option linter.unusedVariables false

/-- A set of points that can be read. -/
def SetRd (w : World) (B q : Nat) (S : List Rw) : Prop :=
  q < B ∧ ∃ (An : Option Addr) (cn : Nat) (Al : Option Addr) (cl : Nat) (vs : List Value), w.cell? ⟨q, 0, none⟩ = some (.slice An S.length cn) ∧ w.cell? ⟨q, 1, none⟩ = some (.slice Al S.length cl) ∧
    Rd w B 1 An S.length (txC (S.map Prod.fst)) ∧ Rd w B 1 Al S.length vs ∧ ∀ (i : Nat) (r : Rw), S[i]? = some r → ∃ (A : Option Addr) (c : Nat), vs[i]? = some (.slice A r.2.length c) ∧ r.2.length ≤ c ∧ Rd w B 2 A r.2.length (ptsC r.2)
theorem SetRd.below {w w' : World} {B C q : Nat} {S : List Rw} (h : SetRd w B q S) (hb : Below C w w') (hC : B ≤ C) : SetRd w' B q S := by
  obtain ⟨hq, An, cn, Al, cl, vs, h0, h1, h2, h3, h4⟩ := h
  refine ⟨hq, An, cn, Al, cl, vs, (hb.cell (p := ⟨q, 0, none⟩) (Nat.lt_of_lt_of_le hq hC)).trans h0, (hb.cell (p := ⟨q, 1, none⟩) (Nat.lt_of_lt_of_le hq hC)).trans h1, h2.belowOf hb hC, h3.belowOf hb hC, fun i r hr => ?_⟩
  obtain ⟨A, c, h5, h6, h7⟩ := h4 i r hr
  exact ⟨A, c, h5, h6, h7.belowOf hb hC⟩
theorem SetRd.more {w : World} {B B' q : Nat} {S : List Rw} (h : SetRd w B q S) (hC : B ≤ B') : SetRd w B' q S := by
  obtain ⟨hq, An, cn, Al, cl, vs, h0, h1, h2, h3, h4⟩ := h
  refine ⟨Nat.lt_of_lt_of_le hq hC, An, cn, Al, cl, vs, h0, h1, h2.more hC, h3.more hC, fun i r hr => ?_⟩
  obtain ⟨A, c, h5, h6, h7⟩ := h4 i r hr
  exact ⟨A, c, h5, h6, h7.more hC⟩
theorem SetRd.call {w w' : World} {q : Nat} {S : List Rw} (h : SetRd w w.heap.size q S) (hb : Below w.heap.size w w') : SetRd w' w'.heap.size q S := (h.below hb (Nat.le_refl _)).more hb.size
/-- What stands at place i. -/
theorem SetRd.at_ {w : World} {B q : Nat} {S : List Rw} (h : SetRd w B q S) {i : Nat} (hi : i < S.length) : ∃ b0 o0 cn b1 o1 cl r A c, S[i]? = some r ∧ w.cell? ⟨q, 0, none⟩ = some (.slice (some ⟨b0, o0, none⟩) S.length cn) ∧ w.cell? ⟨q, 1, none⟩ = some (.slice (some ⟨b1, o1, none⟩) S.length cl) ∧
    w.cell? ⟨b0, o0 + i, none⟩ = some (.string (B8 r.1)) ∧ w.cell? ⟨b1, o1 + i, none⟩ = some (.slice A r.2.length c) ∧ r.2.length ≤ c ∧ Rd w B 2 A r.2.length (ptsC r.2) := by
  obtain ⟨hq, An, cn, Al, cl, vs, h0, h1, h2, h3, h4⟩ := h
  obtain ⟨b0, o0, s, e0, _, hs, x0⟩ := h2.at1 hi
  obtain ⟨b1, o1, e1, _, hc1⟩ := h3.2 (by omega)
  have hr : S[i]? = some S[i] := List.getElem?_eq_getElem hi
  obtain ⟨A, c, h5, h6, h7⟩ := h4 i _ hr
  rw [List.getElem?_map, hr] at hs
  obtain rfl := Option.some.inj hs
  subst e0; subst e1
  exact ⟨b0, o0, cn, b1, o1, cl, _, A, c, hr, h0, h1, x0, hc1 i _ h5, h6, h7⟩
/-- The two slices. -/
theorem SetRd.hd {w : World} {B q : Nat} {S : List Rw} (h : SetRd w B q S) : ∃ An cn Al cl, w.cell? ⟨q, 0, none⟩ = some (.slice An S.length cn) ∧ w.cell? ⟨q, 1, none⟩ = some (.slice Al S.length cl) := by
  obtain ⟨hq, An, cn, Al, cl, vs, h0, h1, _⟩ := h
  exact ⟨An, cn, Al, cl, h0, h1⟩
theorem SetAt.rd {w : World} {G : Nat → Prop} {q : Nat} {sv lv : Value} {N : List Bs} {Q : List PtV} {S : List Rw} (h : SetAt w G q sv lv N Q) (hs : SetIs N Q S) : SetRd w w.heap.size q S := by
  obtain ⟨An, cn, rfl, _, _, hn⟩ := own_form h.nms
  obtain ⟨Al, cl, rfl, _, _, hl⟩ := own_form h.rows
  obtain ⟨l1, l2⟩ := hs.len
  have e0 := h.hd.cell 0
  have e1 := h.hd.cell 1
  rw [l1] at e0 hn
  rw [l2] at e1 hl
  refine ⟨h.hd.lt, An, cn, Al, cl, Q.map (·.v), e0, e1, by rw [← hs.1]; exact hn, hl, fun i r hr => ?_⟩
  have hp : (Q.map (·.pts))[i]? = some r.2 := by rw [hs.2, List.getElem?_map, hr]; rfl
  rw [List.getElem?_map] at hp
  obtain ⟨x, hx, hxp⟩ := Option.map_eq_some_iff.1 hp
  obtain ⟨A, c, hv, hc, _, hr2⟩ := own_form (h.pts x (List.mem_of_getElem? hx))
  rw [hxp] at hv hr2 hc
  exact ⟨A, c, by rw [List.getElem?_map, hx]; exact congrArg some hv, hc, hr2⟩
theorem ptsOf_none2 {S : List Rw} {s : Bs} (h : ∀ (j : Nat) (r : Rw), S[j]? = some r → r.1 ≠ s) : ptsOf S s = [] := ptsOf_none fun r hr => by
  obtain ⟨j, hj, rfl⟩ := List.getElem_of_mem hr
  exact h j _ (List.getElem?_eq_getElem hj)
def GetPost (L : List (Int × Int)) (w : World) (e : Ending) (w' : World) : Prop := ∃ (A : Option Addr) (c : Nat), e = .returned (.slice A L.length c) ∧ Rd w' w.heap.size 2 A L.length (ptsC L) ∧ Below w.heap.size w w'
set_option maxRecDepth 100000 in
set_option maxHeartbeats 4000000 in
theorem setGet_any (q : Nat) (S : List Rw) (s : Bs) (w : World) (hS : SetRd w w.heap.size q S) (hn : S.length ≤ 1000) :
    Calls Tryz.prog 13 #[.pointer (some ⟨q, 0, none⟩), .string (B8 s)] w fun e w' => GetPost (ptsOf S s) w e w' := by
  have HS := Lib.hid (fun W (hb : Below w.heap.size w W) => hS.below hb (Nat.le_refl _))
  obtain ⟨n, hnn⟩ : ∃ n, n = S.length := ⟨_, rfl⟩
  have Hn := Lib.hid hnn
  rw [← hnn] at hn
  clear hS hnn
  go_enter Tryz.func13, Tryz.ntmps13
  go_wp2
  go_loopw [5] (fun kv wr => ∃ k : Nat, k ≤ n ∧ kv = .int .i64 k ∧ Below w.heap.size w wr ∧ ∀ (j : Nat) (r : Rw), j < k → S[j]? = some r → r.1 ≠ s) (fun kv _ => n - (intOf kv).toNat)
  case atStart => exact ⟨0, Nat.zero_le _, rfl, Below.refl _ _, fun j r h => absurd h (Nat.not_lt_zero _)⟩
  case round =>
    obtain ⟨k, hk, rfl, hb, hpre⟩ := hrel
    have HB := Lib.hid hb; have Hpre := Lib.hid hpre
    have hS := HS.out _ hb
    by_cases hkn : k < n
    · have hkn' : (k : Int) < n := by omega
      obtain ⟨b0, o0, cn, b1, o1, cl, r, A, c, hr, z0, z1, x0, y0, hc, hrd⟩ := hS.at_ (i := k) (by rw [← Hn.out]; exact hkn)
      rw [← Hn.out] at z0 z1
      have Hr := Lib.hid hr; have Hrd := Lib.hid hrd
      clear hb hpre hS hr hrd
      by_cases hn : r.1 = s
      · have hq : ((B8 r.1).toList == (B8 s).toList) = true := by rw [hn]; exact beq_self_eq_true _
        have Hf := Lib.hid (show ptsOf S s = r.2 from ptsOf_hit Hr.out hn (fun j x hj hx => Hpre.out j x hj hx))
        clear hn
        go_wp2
        go_ret
        exact ⟨A, c, by rw [Hf.out]; rfl, by rw [Hf.out]; exact Hrd.out, HB.out⟩
      · have hq : ((B8 r.1).toList == (B8 s).toList) = false := by rw [beq_eq_false_iff_ne, B8_toList, B8_toList]; exact hn
        have Hnx := Lib.hid (show ∀ (j : Nat) (x : Rw), j < k + 1 → S[j]? = some x → x.1 ≠ s from fun j x hj hx => by
          rcases Nat.lt_or_ge j k with h | h
          · exact Hpre.out j x h hx
          · obtain rfl : j = k := by omega
            rw [Hr.out] at hx
            injection hx with hx
            rw [← hx]; exact hn)
        clear hn
        go_wp2
        go_roundw
        case rel => exact ⟨k + 1, by omega, by go_num, HB.out, Hnx.out⟩
        case measure => simp [intOf]; omega
    · obtain rfl : k = n := by omega
      have hkn' : ¬ (k : Int) < k := by omega
      obtain ⟨An, cn, Al, cl, z0, z1⟩ := hS.hd
      rw [← Hn.out] at z0 z1
      have Hno := Lib.hid (show ptsOf S s = [] from ptsOf_none2 fun j r hr => Hpre.out j r (by rw [Hn.out]; exact (List.getElem?_eq_some_iff.1 hr).1) hr)
      clear hb hpre hS
      go_wp2
      go_ret
      exact ⟨none, 0, by rw [Hno.out]; rfl, by rw [Hno.out]; exact Rd.nil, HB.out⟩
end Go.Proofs.YtpbgonpmpjpljaaGreatDoor

namespace Go.Proofs.YtpbgonpmpjpljaaGreatDoor
open Go.RowKit
set_option linter.unusedVariables false

/-- A set of points that can be read: no word on the points' room. -/
def SetRw (w : World) (B q : Nat) (S : List Rw) : Prop :=
  q < B ∧ ∃ (An : Option Addr) (cn : Nat) (Al : Option Addr) (cl : Nat) (vs : List Value), w.cell? ⟨q, 0, none⟩ = some (.slice An S.length cn) ∧ w.cell? ⟨q, 1, none⟩ = some (.slice Al S.length cl) ∧
    Rd w B 1 An S.length (txC (S.map Prod.fst)) ∧ Rd w B 1 Al S.length vs ∧ ∀ (i : Nat) (r : Rw), S[i]? = some r → ∃ (A : Option Addr) (c : Nat), vs[i]? = some (.slice A r.2.length c) ∧ Rd w B 2 A r.2.length (ptsC r.2)
theorem SetRd.rw {w : World} {B q : Nat} {S : List Rw} (h : SetRd w B q S) : SetRw w B q S := by
  obtain ⟨hq, An, cn, Al, cl, vs, h0, h1, h2, h3, h4⟩ := h
  refine ⟨hq, An, cn, Al, cl, vs, h0, h1, h2, h3, fun i r hr => ?_⟩
  obtain ⟨A, c, h5, h6, h7⟩ := h4 i r hr
  exact ⟨A, c, h5, h7⟩
theorem SetRw.below {w w' : World} {B C q : Nat} {S : List Rw} (h : SetRw w B q S) (hb : Below C w w') (hC : B ≤ C) : SetRw w' B q S := by
  obtain ⟨hq, An, cn, Al, cl, vs, h0, h1, h2, h3, h4⟩ := h
  refine ⟨hq, An, cn, Al, cl, vs, (hb.cell (p := ⟨q, 0, none⟩) (Nat.lt_of_lt_of_le hq hC)).trans h0, (hb.cell (p := ⟨q, 1, none⟩) (Nat.lt_of_lt_of_le hq hC)).trans h1, h2.belowOf hb hC, h3.belowOf hb hC, fun i r hr => ?_⟩
  obtain ⟨A, c, h5, h7⟩ := h4 i r hr
  exact ⟨A, c, h5, h7.belowOf hb hC⟩
theorem SetRw.more {w : World} {B B' q : Nat} {S : List Rw} (h : SetRw w B q S) (hC : B ≤ B') : SetRw w B' q S := by
  obtain ⟨hq, An, cn, Al, cl, vs, h0, h1, h2, h3, h4⟩ := h
  refine ⟨Nat.lt_of_lt_of_le hq hC, An, cn, Al, cl, vs, h0, h1, h2.more hC, h3.more hC, fun i r hr => ?_⟩
  obtain ⟨A, c, h5, h7⟩ := h4 i r hr
  exact ⟨A, c, h5, h7.more hC⟩
theorem SetRw.call {w w' : World} {q : Nat} {S : List Rw} (h : SetRw w w.heap.size q S) (hb : Below w.heap.size w w') : SetRw w' w'.heap.size q S := (h.below hb (Nat.le_refl _)).more hb.size
/-- What stands at place i. -/
theorem SetRw.at_ {w : World} {B q : Nat} {S : List Rw} (h : SetRw w B q S) {i : Nat} (hi : i < S.length) : ∃ b0 o0 cn b1 o1 cl r A c, S[i]? = some r ∧ (b0 < B ∧ b1 < B) ∧ w.cell? ⟨q, 0, none⟩ = some (.slice (some ⟨b0, o0, none⟩) S.length cn) ∧ w.cell? ⟨q, 1, none⟩ = some (.slice (some ⟨b1, o1, none⟩) S.length cl) ∧
    w.cell? ⟨b0, o0 + i, none⟩ = some (.string (B8 r.1)) ∧ w.cell? ⟨b1, o1 + i, none⟩ = some (.slice A r.2.length c) ∧ Rd w B 2 A r.2.length (ptsC r.2) := by
  obtain ⟨hq, An, cn, Al, cl, vs, h0, h1, h2, h3, h4⟩ := h
  obtain ⟨b0, o0, s, e0, hb0, hs, x0⟩ := h2.at1 hi
  obtain ⟨b1, o1, e1, hb1, hc1⟩ := h3.2 (by omega)
  have hr : S[i]? = some S[i] := List.getElem?_eq_getElem hi
  obtain ⟨A, c, h5, h7⟩ := h4 i _ hr
  rw [List.getElem?_map, hr] at hs
  obtain rfl := Option.some.inj hs
  subst e0; subst e1
  exact ⟨b0, o0, cn, b1, o1, cl, _, A, c, hr, ⟨hb0, hb1⟩, h0, h1, x0, hc1 i _ h5, h7⟩
/-- The string one place before, too. -/
theorem SetRw.nm_ {w : World} {B q : Nat} {S : List Rw} (h : SetRw w B q S) {b0 o0 n cn j : Nat} (h0 : w.cell? ⟨q, 0, none⟩ = some (.slice (some ⟨b0, o0, none⟩) n cn)) {r : Rw} (hr : S[j]? = some r) : w.cell? ⟨b0, o0 + j, none⟩ = some (.string (B8 r.1)) := by
  obtain ⟨c0, p0, cm, _, _, _, r', _, _, hr', _, h0', _, x0, _⟩ := h.at_ (List.getElem?_eq_some_iff.1 hr).1
  rw [h0] at h0'
  injection h0' with e; injection e with e; injection e with e; injection e with e e2
  subst e; subst e2
  obtain rfl := Option.some.inj (hr.symm.trans hr')
  exact x0
/-- The two slices. -/
theorem SetRw.hd {w : World} {B q : Nat} {S : List Rw} (h : SetRw w B q S) : ∃ An cn Al cl, w.cell? ⟨q, 0, none⟩ = some (.slice An S.length cn) ∧ w.cell? ⟨q, 1, none⟩ = some (.slice Al S.length cl) := by
  obtain ⟨hq, An, cn, Al, cl, vs, h0, h1, _⟩ := h
  exact ⟨An, cn, Al, cl, h0, h1⟩
/-- The set that SetOfRows makes, in the midst. -/
structure RsI (w W : World) (q : Nat) (sv lv : Value) (N : List Bs) (vs : List Value) : Prop where
  hd : Blk W q 65 #[sv, lv]
  nm : W.ownsRow w.heap.size 9 1 sv N.length (txC N)
  rw : W.ownsRow w.heap.size 32 1 lv vs.length vs
  hq : w.heap.size ≤ q
  bl : Below w.heap.size w W
theorem RsI.name {w W wa : World} {q : Nat} {sv sv' lv : Value} {N : List Bs} {vs : List Value} (h : RsI w W q sv lv N vs) {s : Bs} (hf : Fr (fun k => sv.ownBlock = some k) W wa) (ho : wa.ownsRow w.heap.size 9 1 sv' (N.length + 1) (txC N ++ [.string (B8 s)])) :
    (wa.cell? ⟨q, 0, none⟩ = some sv ∧ wa.frozen? ⟨q, 0, none⟩ = false) ∧ RsI w (wa.setCell ⟨q, 0, none⟩ sv') q sv' lv (N ++ [s]) vs := by
  have hS : Strange (fun k => sv.ownBlock = some k) W [32, 65] := Strange.own h.nm (by decide)
  have hqb := hf.blk h.hd (hS.not h.hd (by simp))
  have hr := hf.own h.rw (hS.notOwn h.rw (by simp))
  have hz : Fr (fun k => k = q) wa (wa.setCell ⟨q, 0, none⟩ sv') := Fr.setCell (S := fun k => k = q) (Fr.refl _ _) (p := ⟨q, 0, none⟩) (.inr rfl) sv'
  have hT : Strange (fun k => k = q) wa [32, 9] := Strange.blk hqb (by decide)
  have hhq := h.hq
  have hfr : Fr (fun k => w.heap.size ≤ k) w wa := Fr.trans ((Fr.ofBelow h.bl).mono (fun i hi e => e.elim)) hf (fun i hi e => absurd (own_lt h.nm i e).1 (by omega))
  have hfr2 : Fr (fun k => w.heap.size ≤ k) w (wa.setCell ⟨q, 0, none⟩ sv') := Fr.trans hfr hz (fun i hi e => by subst e; omega)
  exact ⟨⟨hqb.cell 0, hqb.frozen 0⟩, ⟨hqb.set_ 0 sv', by rw [List.length_append, List.length_singleton, txC_snoc]; exact own_far ho hz hT (by simp), own_far hr hz hT (by simp), hhq, hfr2.below (Nat.le_refl _) (fun k hk e => by omega)⟩⟩
theorem RsI.row {w W wa : World} {q : Nat} {sv lv lv' u : Value} {N : List Bs} {vs : List Value} (h : RsI w W q sv lv N vs) (hf : Fr (fun k => lv.ownBlock = some k) W wa) (ho : wa.ownsRow w.heap.size 32 1 lv' (vs.length + 1) (vs ++ [u])) :
    (wa.cell? ⟨q, 1, none⟩ = some lv ∧ wa.frozen? ⟨q, 1, none⟩ = false) ∧ RsI w (wa.setCell ⟨q, 1, none⟩ lv') q sv lv' N (vs ++ [u]) := by
  have hS : Strange (fun k => lv.ownBlock = some k) W [9, 65] := Strange.own h.rw (by decide)
  have hqb := hf.blk h.hd (hS.not h.hd (by simp))
  have hr := hf.own h.nm (hS.notOwn h.nm (by simp))
  have hz : Fr (fun k => k = q) wa (wa.setCell ⟨q, 1, none⟩ lv') := Fr.setCell (S := fun k => k = q) (Fr.refl _ _) (p := ⟨q, 1, none⟩) (.inr rfl) lv'
  have hT : Strange (fun k => k = q) wa [32, 9] := Strange.blk hqb (by decide)
  have hhq := h.hq
  have hfr : Fr (fun k => w.heap.size ≤ k) w wa := Fr.trans ((Fr.ofBelow h.bl).mono (fun i hi e => e.elim)) hf (fun i hi e => absurd (own_lt h.rw i e).1 (by omega))
  have hfr2 : Fr (fun k => w.heap.size ≤ k) w (wa.setCell ⟨q, 1, none⟩ lv') := Fr.trans hfr hz (fun i hi e => by subst e; omega)
  exact ⟨⟨hqb.cell 1, hqb.frozen 1⟩, ⟨hqb.set_ 1 lv', own_far hr hz hT (by simp), by rw [List.length_append, List.length_singleton]; exact own_far ho hz hT (by simp), hhq, hfr2.below (Nat.le_refl _) (fun k hk e => by omega)⟩⟩
theorem RsI.rd {w W : World} {q : Nat} {sv lv : Value} {A : Option Addr} {rows : List RowV} (h : RsI w W q sv lv (rows.map RowV.nm) (rows.map RowV.v)) (hr : ∀ r ∈ rows, ∃ A' c', r.v = .slice A' r.pts.length c' ∧ Rd w w.heap.size 2 A' r.pts.length (ptsC r.pts)) : SetRw W W.heap.size q (rows.map rowP2) := by
  obtain ⟨An, cn, rfl, _, _, hn⟩ := own_form h.nm
  obtain ⟨Al, cl, rfl, _, _, hl⟩ := own_form h.rw
  have e0 := h.hd.cell 0
  have e1 := h.hd.cell 1
  have l1 : (rows.map RowV.nm).length = (rows.map rowP2).length := by rw [List.length_map, List.length_map]
  have l2 : (rows.map RowV.v).length = (rows.map rowP2).length := by rw [List.length_map, List.length_map]
  rw [l1] at e0 hn
  rw [l2] at e1 hl
  refine ⟨h.hd.lt, An, cn, Al, cl, rows.map RowV.v, e0, e1, ?_, hl, fun i r hi => ?_⟩
  · rw [show (rows.map rowP2).map Prod.fst = rows.map RowV.nm by rw [List.map_map]; rfl]
    exact hn
  · rw [List.getElem?_map] at hi
    obtain ⟨x, hx, rfl⟩ := Option.map_eq_some_iff.1 hi
    obtain ⟨A', c', e, hrd⟩ := hr x (List.mem_of_getElem? hx)
    exact ⟨A', c', by rw [List.getElem?_map, hx]; exact congrArg some e, (hrd.belowOf h.bl (Nat.le_refl _)).more h.bl.size⟩
end Go.Proofs.YtpbgonpmpjpljaaGreatDoor

namespace Go.Proofs.YtpbgonpmpjpljaaGreatDoor
open Go.RowKit
set_option linter.unusedVariables false

theorem pointsFault_u (A : Option Addr) (n c : Nat) (l : List (Int × Int)) (w : World) (hA : Rd w w.heap.size 2 A n (ptsC l)) :
    Calls Tryz.prog 48 #[.slice A n c] w fun e w' => e = .returned (fV (ptF l)) ∧ Below w.heap.size w w' := by
  have hlen : l.length = n := by have := hA.1; rw [flat_len (fun p : Int × Int => [Value.int .i64 p.1, Value.int .u64 p.2]) 2 (fun _ => rfl)] at this; omega
  rcases ptF_cases l with ⟨h, e⟩ | ⟨h, i, h1, h2, h3, e⟩ | ⟨h, h2, e⟩
  · refine (pointsFault_long A n c w (by omega)).mono ?_
    rintro e' w' ⟨rfl, hb⟩
    exact ⟨by rw [e]; rfl, hb⟩
  · refine (pointsFault_any A n c l i w hA (by omega) (by omega) h2 (fun _ => h3)).mono ?_
    rintro e' w' ⟨rfl, hb⟩
    exact ⟨by rw [e, pfV_bad l n i _ (by omega) rfl]; rfl, hb⟩
  · refine (pointsFault_any A n c l n w hA (by omega) (Nat.le_refl _) (fun j hj => h2 j (by omega)) (fun h => absurd h (Nat.lt_irrefl _))).mono ?_
    rintro e' w' ⟨rfl, hb⟩
    exact ⟨by rw [e, pfV_ok]; rfl, hb⟩
end Go.Proofs.YtpbgonpmpjpljaaGreatDoor
