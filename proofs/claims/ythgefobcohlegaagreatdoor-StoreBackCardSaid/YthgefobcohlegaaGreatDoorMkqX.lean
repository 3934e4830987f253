/- block.Points by its contract. -/
import Derived.Test.YthgefobcohlegaaGreatDoorMkoX
import Derived.Test.YthgefobcohlegaaGreatDoorMkcX
import Derived.Test.YthgefobcohlegaaGreatDoorMkkX
import Derived.Deep.RegionHeld3
import Derived.Test.YthgefobcohlegaaGreatDoorMkfX
import Derived.Test.YthgefobcohlegaaGreatDoorMkbX
import Derived.BigQuiet
import Derived.Test.YthgefobcohlegaaGreatDoorMknX
import Derived.Test.YthgefobcohlegaaGreatDoorMkmX
import Derived.Test.YthgefobcohlegaaGreatDoorMkpX
import Derived.Test.YthgefobcohlegaaGreatDoorMkgX
import Derived.Test.YthgefobcohlegaaGreatDoorBlkMakeQX
namespace Go.Proofs.YthgefobcohlegaaGreatDoor
open Go.RowKit
set_option linter.unusedVariables false

/-- The points of the first row of that name. -/
def ptsOf (rows : List (Bs × List (Int × Int))) (s : Bs) : List (Int × Int) := match rows.find? fun r => decide (r.1 = s) with | some r => r.2 | none => []
theorem ptsOf_hit {rows : List (Bs × List (Int × Int))} {s : Bs} {k : Nat} {r : Bs × List (Int × Int)} (h : rows[k]? = some r) (hr : r.1 = s) (hp : ∀ j x, j < k → rows[j]? = some x → x.1 ≠ s) : ptsOf rows s = r.2 := by
  have : rows.find? (fun r => decide (r.1 = s)) = some r := by
    obtain ⟨hl, hv⟩ := List.getElem?_eq_some_iff.1 h
    rw [List.find?_eq_some_iff_getElem]
    exact ⟨decide_eq_true hr, k, hl, hv, fun j hj => by
      have := hp j _ hj (List.getElem?_eq_getElem (by omega))
      simpa using this⟩
  unfold ptsOf; rw [this]
theorem ptsOf_none {rows : List (Bs × List (Int × Int))} {s : Bs} (hp : ∀ x ∈ rows, x.1 ≠ s) : ptsOf rows s = [] := by
  have : rows.find? (fun r => decide (r.1 = s)) = none := by
    rw [List.find?_eq_none]
    intro x hx
    simpa using hp x hx
  unfold ptsOf; rw [this]
theorem rowsR_le {fr sp : Int} {ser : List Bs} {ch : List (List Nat)} : ∀ p ∈ (rowsR fr sp ser ch).2, p.2.length ≤ 120 := by
  intro p hp
  unfold rowsR at hp
  split at hp
  · cases hp
  split at hp
  · cases hp
  split at hp
  · cases hp
  split at hp
  · cases hp
  · obtain ⟨i, _, rfl⟩ := List.mem_map.1 hp
    show (okL (oneR fr (fr + sp) ser ch i)).length ≤ 120
    cases ho : oneR fr (fr + sp) ser ch i with
    | err c => exact Nat.zero_le _
    | ok l =>
      unfold oneR oneV at ho
      split at ho
      · cases ho
      split at ho
      · cases ho
      split at ho
      · cases ho
      · rename_i l' hd
        split at ho
        · cases ho
        split at ho
        · injection ho with ho
          subst ho
          exact decR_le hd
        · cases ho
theorem rowsR_60 {fr sp : Int} {ser : List Bs} {ch : List (List Nat)} : (rowsR fr sp ser ch).2.length ≤ 60 := by
  unfold rowsR
  split
  · exact Nat.zero_le _
  split
  · exact Nat.zero_le _
  split
  · exact Nat.zero_le _
  split
  · exact Nat.zero_le _
  · rw [List.length_map, List.length_range]; omega
def BPtsPost (es : Nat → Addr) (f : Nat × Int) (L : List (Int × Int)) (w : World) (e : Ending) (w' : World) : Prop :=
  ∃ v u, e = .returned (.tuple #[u, v]) ∧ EV es w.heap.size w' v f ∧ (f.1 ≠ 0 → u = .slice none 0 0) ∧ (f.1 = 0 → w'.ownsRow w.heap.size 39 2 u L.length (ptsC L)) ∧ Below w.heap.size w w'
set_option maxRecDepth 100000 in
set_option maxHeartbeats 4000000 in
theorem bpts_any {es : Nat → Addr} {B : Nat} (fr sp : Int) (A A' : Option Addr) (n c n' c' : Nat) (ser : List Bs) (ch : List (List Nat)) (s : Bs) (f t : Int) (w : World) (hS : SBk es B w) (hT : TabAt w) (hTB : 19 < B) (hB0 : B ≤ w.heap.size)
    (hA : Rd w w.heap.size 1 A n (ser.map fun s => .string (B8 s))) (hC : Rd w w.heap.size 1 A' n' (ch.map fun x => .string (bytesOf x))) (hsl : ∀ s ∈ ser, s.length ≤ 100000) (hcl : ∀ x ∈ ch, x.length ≤ 100000 ∧ ∀ b ∈ x, b < 256) :
    Calls Tryz.prog 59 #[.agg #[.int .i64 fr, .int .i64 sp, .slice A n c, .slice A' n' c'], .string (B8 s), .int .i64 f, .int .i64 t] w fun e w' => BPtsPost es (rowsR fr sp ser ch).1 (betL f t (ptsOf (rowsR fr sp ser ch).2 s)) w e w' := by
  have hb1 : Below w.heap.size w (w.alloc (.cells #[.int .i64 fr, .int .i64 sp, .slice A n c, .slice A' n' c'] 85)) := Below.alloc (Below.refl _ _) (Nat.le_refl _) _
  have Hrw := Lib.hid (rows_any fr sp A A' n c n' c' ser ch _ (hS.below hb1 hB0) (hT.call hb1 (Nat.le_refl _)) hTB (Nat.le_trans hB0 hb1.size) ((hA.below hb1).more hb1.size) ((hC.below hb1).more hb1.size) hsl hcl)
  have Hle := Lib.hid (rowsR_le (fr := fr) (sp := sp) (ser := ser) (ch := ch))
  have h60 := rowsR_60 (fr := fr) (sp := sp) (ser := ser) (ch := ch)
  have HB1 := Lib.hid hb1
  clear hS hT hTB hB0 hA hC hsl hcl hb1
  generalize rowsR fr sp ser ch = R at Hrw Hle h60 ⊢
  obtain ⟨L, hL⟩ : ∃ L, L = betL f t (ptsOf R.2 s) := ⟨_, rfl⟩
  rw [← hL]
  have HL := Lib.hid hL
  clear hL
  go_enter Tryz.func59, Tryz.ntmps59
  go_wp2_with fail
  refine Hrw.out.mono ?_
  rintro e w2 ⟨v, u, ls, rfl, hev, hown, hro, hmap, hu, hb2⟩
  have HB2 := Lib.hid (Below.call HB1.out hb2 HB1.out.size)
  have HE2 := Lib.hid (hev.base HB1.out.size)
  by_cases h0 : R.1.1 = 0
  case neg =>
    obtain ⟨ty, p, rfl⟩ := hev.pos h0
    obtain rfl := hu h0
    have H0 := Lib.hid h0
    clear hev hown hro hmap hu hb2 h0
    go_wp2
    go_ret2
    exact ⟨_, _, rfl, HE2.out, fun _ => rfl, fun h => absurd h H0.out, HB2.out⟩
  obtain rfl := hev.zero h0
  have H0 := Lib.hid h0
  obtain ⟨Ar, cr, rfl, _, _, hrd⟩ := own_form hown
  have hlen : ∀ r ∈ ls, r.pts.length ≤ 120 := fun r hr => Hle.out (r.nm, r.pts) (by rw [← hmap]; exact List.mem_map.2 ⟨r, hr, rfl⟩)
  have hm60 : ls.length ≤ 60 := by
    have e := congrArg List.length hmap
    rw [List.length_map] at e
    omega
  obtain ⟨m, hm⟩ : ∃ m, m = ls.length := ⟨_, rfl⟩
  rw [← hm] at hrd
  have Hat := Lib.hid (fun W (hb : Below w2.heap.size w2 W) (k : Nat) (hk : k < m) => (hrd.below hb).at2 hk)
  have Hro := Lib.hid (fun W (hb : Below w2.heap.size w2 W) => hro.below hb (Nat.le_refl _))
  have Hlen := Lib.hid hlen; have Hmap := Lib.hid hmap; have Hm := Lib.hid hm
  rw [← hm] at hm60 ⊢
  clear hev hown hro hmap hu hb2 h0 hlen hm hrd h60
  go_wp2
  go_loopw [24] (fun kv wr => ∃ k : Nat, k ≤ m ∧ kv = .int .i64 k ∧ Below w2.heap.size w2 wr ∧ ∀ j x, j < k → ls[j]? = some x → x.nm ≠ s) (fun kv _ => m - (intOf kv).toNat)
  case atStart => exact ⟨0, Nat.zero_le _, rfl, Below.refl _ _, fun j x h => absurd h (Nat.not_lt_zero _)⟩
  case round =>
    obtain ⟨k, hk, rfl, hb, hpre⟩ := hrel
    have Hb := Lib.hid hb; have Hpre := Lib.hid hpre
    have HBr := Lib.hid (Below.call HB2.out hb HB2.out.size)
    by_cases hkm : k < m
    · have hkm' : (k : Int) < m := by omega
      obtain ⟨b0, o0, r, hA0, had0, hr, x0, y0⟩ := Hat.out _ hb k hkm
      subst hA0
      have hmem := List.mem_of_getElem? hr
      obtain ⟨Ap, cp, hrv, hc1, hc2, hrp⟩ := own_form (Hro.out _ hb r hmem)
      rw [hrv] at y0
      have hl120 := Hlen.out r hmem
      have Hr := Lib.hid hr
      clear hb hpre hr hmem hrv
      by_cases hn : r.nm = s
      · have hq : ((B8 r.nm).toList == (B8 s).toList) = true := by rw [hn]; exact beq_self_eq_true _
        have HL2 := Lib.hid (show L = betL f t r.pts by
          rw [HL.out]
          refine congrArg _ (ptsOf_hit (k := k) (r := (r.nm, r.pts)) ?_ hn fun j x hj hx => ?_)
          · rw [← Hmap.out, List.getElem?_map, Hr.out]; rfl
          · rw [← Hmap.out, List.getElem?_map] at hx
            obtain ⟨y, hy, rfl⟩ := Option.map_eq_some_iff.1 hx
            exact Hpre.out j y hj hy)
        have Hbt := Lib.hid (fun W (hb : Below wr.heap.size wr W) => between_any Ap r.pts.length cp r.pts f t W ((hrp.below hb).more hb.size) (by omega))
        rw [← HL2.out] at Hbt
        clear hn hrp hl120
        go_wp2_with fail
        refine (Hbt.out _ (Below.alloc (Below.refl _ _) (Nat.le_refl _) _)).mono ?_
        rintro e w5 ⟨v, rfl, hown, hb5⟩
        have hbx : Below wr.heap.size wr w5 := Below.call (Below.alloc (Below.refl _ _) (Nat.le_refl _) _) hb5 (by simp)
        have HB5 := Lib.hid (Below.call HBr.out hbx HBr.out.size)
        have HO5 := Lib.hid (own_base hown (show w.heap.size ≤ _ by have := HBr.out.size; simp; omega))
        have HE5 := Lib.hid (HE2.out.below (Below.call Hb.out hbx Hb.out.size) (Nat.le_refl _))
        obtain ⟨Av, cv, rfl, _, _, _⟩ := own_form hown
        clear hown hb5 hbx
        go_wp2
        go_ret2
        exact ⟨_, _, rfl, HE5.out, fun h => absurd H0.out h, fun _ => HO5.out, HB5.out⟩
      · have hq : ((B8 r.nm).toList == (B8 s).toList) = false := by rw [beq_eq_false_iff_ne, B8_toList, B8_toList]; exact hn
        have Hn := Lib.hid (show ∀ j x, j < k + 1 → ls[j]? = some x → x.nm ≠ s from fun j x hj hx => by
          rcases Nat.lt_or_ge j k with h | h
          · exact Hpre.out j x h hx
          · obtain rfl : j = k := by omega
            rw [Hr.out] at hx
            injection hx with hx
            rw [← hx]; exact hn)
        clear hn
        go_wp2
        go_roundw
        case rel => exact ⟨k + 1, by omega, by go_num, Below.alloc Hb.out Hb.out.size _, Hn.out⟩
        case measure => simp [intOf]; omega
    · obtain rfl : k = m := by omega
      have hkm' : ¬ (k : Int) < k := by omega
      have Hno := Lib.hid (show L = [] by
        rw [HL.out, ptsOf_none (fun x hx => by
          rw [← Hmap.out] at hx
          obtain ⟨r, hr, rfl⟩ := List.mem_map.1 hx
          obtain ⟨j, hj, rfl⟩ := List.getElem_of_mem hr
          exact Hpre.out j _ (by rw [Hm.out]; exact hj) (List.getElem?_eq_getElem hj))]
        rfl)
      clear hb hpre
      go_wp2
      go_ret2
      exact ⟨_, _, rfl, HE2.out.below Hb.out (Nat.le_refl _), fun h => absurd H0.out h, fun _ => by rw [Hno.out]; exact World.ownsRow_nil _ _ _ _, HBr.out⟩
end Go.Proofs.YthgefobcohlegaaGreatDoor

namespace Go.Proofs.YthgefobcohlegaaGreatDoor
open Go.RowKit
set_option linter.unusedVariables false

end Go.Proofs.YthgefobcohlegaaGreatDoor

namespace Go.Proofs.YthgefobcohlegaaGreatDoor
open Go.RowKit
set_option linter.unusedVariables false

theorem stepAt_range (l : List Int) (hl : ∀ t ∈ l, Tick t) (k : Nat) : -4398046511104 ≤ stepAt l k ∧ stepAt l k ≤ 4398046511104 := by
  have h : ∀ i, -1099511627776 ≤ l.getD i 0 ∧ l.getD i 0 ≤ 1099511627776 := by
    intro i
    rw [List.getD_eq_getElem?_getD]
    cases he : l[i]? with
    | none => simp
    | some t => obtain ⟨a, b⟩ := hl t (List.mem_of_getElem? he); simpa using ⟨a, b⟩
  have h0 := h k
  have h1 := h (k - 1)
  have h2 := h (k - 2)
  have h3 := h 0
  have h4 := h 1
  unfold stepAt
  split
  · omega
  · split <;> omega

end Go.Proofs.YthgefobcohlegaaGreatDoor

namespace Go.Proofs.YthgefobcohlegaaGreatDoor
open Go.RowKit
set_option linter.unusedVariables false

theorem take_getD2 {l : List Int} {k i : Nat} (h : i < k) : (l.take k).getD i 0 = l.getD i 0 := by
  rw [List.getD_eq_getElem?_getD, List.getD_eq_getElem?_getD, List.getElem?_take, if_pos h]
theorem tNext_step2 {l : List Int} {k : Nat} (hk : k < l.length) : tNext (l.take k) (stepAt l k) = l.getD k 0 := by
  have hl : (l.take k).length = k := by rw [List.length_take]; omega
  unfold tNext stepAt
  rw [hl]
  split
  · rename_i h; rw [h]
  · split
    · rename_i h; rw [take_getD2 (by omega), h]; omega
    · rw [take_getD2 (by omega), take_getD2 (by omega)]; omega
theorem wavesL_at2 {s : List Int} {k : Nat} {y : Int} (h : s[k]? = some y) : wavesL s = wavesL (s.take k) ++ (waveBits y ++ wavesL (s.drop (k + 1))) := by
  have hk : k < s.length := (List.getElem?_eq_some_iff.1 h).1
  have e : s = s.take k ++ (y :: s.drop (k + 1)) := by
    have : s.drop k = y :: s.drop (k + 1) := by
      rw [List.drop_eq_getElem_cons hk]; congr 1; exact (List.getElem?_eq_some_iff.1 h).2
    rw [← this, List.take_append_drop]
  conv => lhs; rw [e]
  simp [wavesL]
/-- Ticks behind some bits, and ahead of some, are read as they were put. -/
theorem rdT_mid (A R : List Bool) (l : List Int) (hl : ∀ t ∈ l, Tick t) : rdT (A ++ (ticksBits l ++ R)) l.length [] A.length = .ok l (A.length + (ticksBits l).length) := by
  have key : ∀ (d k : Nat), k + d = l.length → rdT (A ++ (ticksBits l ++ R)) d (l.take k) (A.length + (wavesL ((stepsL l).take k)).length) = .ok l (A.length + (ticksBits l).length) := by
    intro d
    induction d with
    | zero =>
      intro k hk
      have e1 : l.take k = l := List.take_of_length_le (by omega)
      have e2 : (stepsL l).take k = stepsL l := List.take_of_length_le (by rw [stepsL_len]; omega)
      rw [e1, e2]; rfl
    | succ d ih =>
      intro k hk
      have hkl : k < l.length := by omega
      have hst := stepsL_get l k hkl
      have hr := stepAt_range l hl k
      have hgw : getW (A ++ (ticksBits l ++ R)) (A.length + (wavesL ((stepsL l).take k)).length) = .ok (stepAt l k) (sizeN (stepAt l k)).toNat := by
        have e : A ++ (ticksBits l ++ R) = (A ++ wavesL ((stepsL l).take k)) ++ (waveBits (stepAt l k) ++ (wavesL ((stepsL l).drop (k + 1)) ++ R)) := by
          unfold ticksBits
          rw [wavesL_at2 hst]; simp only [List.append_assoc]
        rw [e, ← List.length_append]
        exact getW_wave _ _ _ (by omega)
      have hget : l[k]? = some (l.getD k 0) := by rw [List.getD_eq_getElem?_getD, List.getElem?_eq_getElem hkl]; rfl
      obtain ⟨t0, t1⟩ := hl _ (List.mem_of_getElem? hget)
      have htn := tNext_step2 hkl
      rw [rdT_next hgw (by intro h; exact h.2 (by omega)) (by rw [htn]; exact ⟨t0, t1⟩), htn, ← take_snoc hget]
      have hlen : A.length + (wavesL ((stepsL l).take k)).length + (sizeN (stepAt l k)).toNat = A.length + (wavesL ((stepsL l).take (k + 1))).length := by
        have := waveBits_len (stepAt l k)
        rw [wavesL_next hst, List.length_append]; omega
      rw [hlen]
      exact ih (k + 1) (by omega)
  have := key l.length 0 (by omega)
  simpa [wavesL] using this

theorem seal_len (xs : List Nat) : (sealL xs).length = xs.length + 4 := by unfold sealL; rw [List.length_append, fourL_len]
theorem seal_take (xs : List Nat) : (sealL xs).take ((sealL xs).length - 4) = xs := by
  rw [seal_len, Nat.add_sub_cancel]; unfold sealL; exact List.take_left
theorem seal_drop (xs : List Nat) : (sealL xs).drop ((sealL xs).length - 4) = fourL (sumL xs) := by
  rw [seal_len, Nat.add_sub_cancel]; unfold sealL; exact List.drop_left
theorem zip_split {l : List (Int × Int)} (h : ∀ p ∈ l, 0 ≤ p.2) : zipP (tsOf l) (vsOf l) = l := by
  unfold zipP tsOf vsOf
  induction l with
  | nil => rfl
  | cons p l ih =>
    have h2 := h p List.mem_cons_self
    rw [List.map_cons, List.map_cons, List.zipWith_cons_cons, ih (fun q hq => h q (List.mem_cons_of_mem _ hq))]
    congr 1
    obtain ⟨a, b⟩ := p
    simp only at h2 ⊢
    congr 1
    omega
theorem row_bits (l : List (Int × Int)) : ∃ R, rbits (packN (rowP l)) = [] ++ (bitsN l.length 8 ++ ((ticksBits (tsOf l) ++ maskB (vsOf l)) ++ R)) := by
  refine ⟨(rbits (packN (rowP l))).drop (rowP l).length, ?_⟩
  have h := List.take_append_drop (rowP l).length (rbits (packN (rowP l)))
  rw [rbits_pack] at h
  conv => lhs; rw [← h]
  unfold rowP; simp only [List.nil_append, List.append_assoc]
theorem tsOf_len (l : List (Int × Int)) : (tsOf l).length = l.length := List.length_map _
theorem vsOf_len (l : List (Int × Int)) : (vsOf l).length = l.length := List.length_map _
theorem ptR_row {l : List (Int × Int)} (hok : ∀ j, j < l.length → okAt l j) (hn : l.length ≤ 120) (hv : ∀ p ∈ l, 0 ≤ p.2 ∧ p.2 < 18446744073709551616) : ptR (packN (rowP l)) = .ok l := by
  obtain ⟨R, hR⟩ := row_bits l
  have h0 : (packN (rowP l)).length ≠ 0 := by
    rw [packN_len]; unfold rowP; rw [List.length_append, bitsN_len]; omega
  have hn8 : vAt (rbits (packN (rowP l))) 0 8 = l.length := by
    rw [hR]; exact vAt_mid [] _ l.length 8 0 rfl (by omega)
  have ht := rdT_mid (bitsN l.length 8) (maskB (vsOf l) ++ R) (tsOf l) (okAt_tick rfl hok)
  rw [tsOf_len, bitsN_len] at ht
  have hm := rdM_mask (bitsN l.length 8 ++ ticksBits (tsOf l)) R (vsOf_lt hv)
  rw [vsOf_len, List.length_append, bitsN_len] at hm
  have e1 : rbits (packN (rowP l)) = bitsN l.length 8 ++ (ticksBits (tsOf l) ++ (maskB (vsOf l) ++ R)) := by rw [hR]; simp only [List.nil_append, List.append_assoc]
  have e2 : rbits (packN (rowP l)) = bitsN l.length 8 ++ ticksBits (tsOf l) ++ (maskB (vsOf l) ++ R) := by rw [e1]; simp only [List.append_assoc]
  rw [← e1] at ht
  rw [← e2] at hm
  unfold ptR
  rw [if_neg h0, hn8, if_neg (by omega), ht]
  simp only
  rw [hm]
  simp only
  rw [zip_split (fun p hp => (hv p hp).1)]
theorem decR_chunk {l : List (Int × Int)} (hok : ∀ j, j < l.length → okAt l j) (hn : l.length ≤ 120) (hv : ∀ p ∈ l, 0 ≤ p.2 ∧ p.2 < 18446744073709551616) : decR (chunkL l) = .ok l := by
  have h5 : ¬ (chunkL l).length < 5 := by
    unfold chunkL; rw [seal_len, packN_len]; unfold rowP; rw [List.length_append, bitsN_len]; omega
  unfold decR
  rw [if_neg h5]
  unfold chunkL
  rw [seal_take, seal_drop, if_neg (fun h => h rfl), ptR_row hok hn hv]
  simp only
  rw [if_pos ⟨hok, by first | rfl | trivial⟩]

end Go.Proofs.YthgefobcohlegaaGreatDoor

namespace Go.Proofs.YthgefobcohlegaaGreatDoor
open Go.RowKit
set_option linter.unusedVariables false

abbrev Rw := Bs × List (Int × Int)
theorem firstM_none {g : Nat → Option Nat} : ∀ {n : Nat}, firstM g n = none ↔ ∀ i, i < n → g i = none
  | 0 => ⟨fun _ i h => absurd h (Nat.not_lt_zero _), fun _ => rfl⟩
  | n + 1 => by
    constructor
    · intro h i hi
      unfold firstM at h
      split at h
      · cases h
      · rename_i h1
        split at h
        · cases h
        · rename_i h2
          rcases Nat.lt_or_ge i n with h3 | h3
          · exact firstM_none.1 h1 i h3
          · obtain rfl : i = n := by omega
            exact h2
    · intro h
      exact firstM_ok (firstM_none.2 fun i hi => h i (by omega)) (h n (Nat.lt_succ_self _))
theorem firstBad_none {g : Nat → PRes} : ∀ {n : Nat}, firstBad g n = none ↔ ∀ i, i < n → ∃ l, g i = .ok l
  | 0 => ⟨fun _ i h => absurd h (Nat.not_lt_zero _), fun _ => rfl⟩
  | n + 1 => by
    constructor
    · intro h i hi
      unfold firstBad at h
      split at h
      · cases h
      · rename_i h1
        split at h
        · cases h
        · rename_i l h2
          rcases Nat.lt_or_ge i n with h3 | h3
          · exact firstBad_none.1 h1 i h3
          · obtain rfl : i = n := by omega
            exact ⟨l, h2⟩
    · intro h
      obtain ⟨l, hl⟩ := h n (Nat.lt_succ_self _)
      exact firstBad_ok (firstBad_none.2 fun i hi => h i (by omega)) hl
theorem leS_false {a b : Bs} : leS a b = false ↔ b < a := by
  unfold leS
  rw [bytesLess_lt, Bool.or_eq_false_iff, decide_eq_false_iff_not, beq_eq_false_iff_ne]
  constructor
  · rintro ⟨h1, h2⟩
    rcases lt_or_bs a b with h | h | h
    · exact absurd h h1
    · exact absurd h h2
    · exact h
  · intro h
    exact ⟨lt_asymm_bs h, fun e => by subst e; exact lt_irrefl_bs _ h⟩
theorem dupB_rise {ns : List Bs} (h : ∀ i, i < ns.length → dupB ns i = false) : ns.Pairwise (· < ·) := by
  have hs : ∀ i, i + 1 < ns.length → ns.getD i [] < ns.getD (i + 1) [] := fun i hi => by
    have := h (i + 1) hi
    unfold dupB at this
    rw [decide_eq_true (Nat.succ_pos i), Bool.true_and, Nat.add_sub_cancel] at this
    exact leS_false.1 this
  have ht : ∀ d i, i + d + 1 < ns.length → ns.getD i [] < ns.getD (i + d + 1) [] := by
    intro d
    induction d with
    | zero => exact fun i hi => hs i hi
    | succ d ih => exact fun i hi => List.lt_trans (ih i (by omega)) (hs (i + d + 1) (by omega))
  rw [List.pairwise_iff_getElem]
  intro i j hi hj hij
  have := ht (j - i - 1) i (by omega)
  rw [show i + (j - i - 1) + 1 = j by omega, List.getD_eq_getElem?_getD, List.getD_eq_getElem?_getD, List.getElem?_eq_getElem hi, List.getElem?_eq_getElem hj] at this
  exact this
theorem rise_dupB {ns : List Bs} (h : ns.Pairwise (· < ·)) {i : Nat} (hi : i < ns.length) : dupB ns i = false := by
  unfold dupB
  rcases Nat.eq_zero_or_pos i with h0 | h0
  · rw [decide_eq_false (by omega), Bool.false_and]
  · rw [leS_false.2, Bool.and_false]
    have := List.pairwise_iff_getElem.1 h (i - 1) i (by omega) hi (by omega)
    rw [List.getD_eq_getElem?_getD, List.getD_eq_getElem?_getD, List.getElem?_eq_getElem hi, List.getElem?_eq_getElem (show i - 1 < ns.length by omega)]
    exact this
/-- A row that is right by itself. -/
def RowOk (fr en : Int) (r : Rw) : Prop := (rdF r.1).1 = 0 ∧ (ptF r.2).1 = 0 ∧ allIn fr en r.2 = true
theorem ptF_zero {l : List (Int × Int)} : (ptF l).1 = 0 ↔ l.length ≤ 120 ∧ ∀ j, j < l.length → okAt l j := by
  rcases ptF_cases l with ⟨h, e⟩ | ⟨h, i, h1, h2, h3, e⟩ | ⟨h, h2, e⟩ <;> rw [e]
  · exact ⟨fun h => (by cases h), fun ⟨h', _⟩ => by omega⟩
  · exact ⟨fun h => absurd h (Nat.succ_ne_zero _), fun ⟨_, h'⟩ => absurd (h' i h1) h3⟩
  · exact ⟨fun _ => ⟨h, h2⟩, fun _ => rfl⟩
theorem mkR_none {fr en : Int} {rows : List Rw} {i : Nat} : mkR fr en rows i = none ↔ RowOk fr en (rows.getD i ([], [])) ∧ dupB (rows.map Prod.fst) i = false := by
  unfold mkR mkV RowOk
  by_cases h1 : (rdF (rows.getD i ([], [])).1).1 = 0
  case neg => rw [if_pos h1]; exact ⟨fun h => (by cases h), fun h => absurd h.1.1 h1⟩
  rw [if_neg (by simpa using h1)]
  cases hd : dupB (rows.map Prod.fst) i
  case true => exact ⟨fun h => (by cases h), fun h => (by cases h.2)⟩
  rw [if_neg (by decide)]
  by_cases h2 : (ptF (rows.getD i ([], [])).2).1 = 0
  case neg => rw [if_pos h2]; exact ⟨fun h => (by cases h), fun h => absurd h.1.2.1 h2⟩
  rw [if_neg (by simpa using h2)]
  cases hi : allIn fr en (rows.getD i ([], [])).2
  · exact ⟨fun h => (by cases h), fun h => (by cases h.1.2.2)⟩
  · exact ⟨fun _ => ⟨⟨h1, h2, rfl⟩, rfl⟩, fun _ => rfl⟩
/-- Rows that are right: each by itself, names rising. -/
def RowsOk (fr en : Int) (rows : List Rw) : Prop := (∀ r ∈ rows, RowOk fr en r) ∧ (rows.map Prod.fst).Pairwise (· < ·)
theorem RowsOk_iff {fr en : Int} {rows : List Rw} : firstM (mkR fr en rows) rows.length = none ↔ RowsOk fr en rows := by
  rw [firstM_none]
  constructor
  · intro h
    refine ⟨fun r hr => ?_, dupB_rise fun i hi => (mkR_none.1 (h i (by simpa using hi))).2⟩
    obtain ⟨i, hi, rfl⟩ := List.getElem_of_mem hr
    have := (mkR_none.1 (h i hi)).1
    rwa [List.getD_eq_getElem?_getD, List.getElem?_eq_getElem hi] at this
  · rintro ⟨h1, h2⟩ i hi
    refine mkR_none.2 ⟨?_, rise_dupB h2 (by simpa using hi)⟩
    rw [List.getD_eq_getElem?_getD, List.getElem?_eq_getElem hi]
    exact h1 _ (List.getElem_mem hi)
theorem RowsOk.keep {fr en : Int} {rows : List Rw} (h : RowsOk fr en rows) : RowsOk fr en (keepR rows) :=
  ⟨fun r hr => h.1 r (List.mem_filter.1 hr).1, List.Pairwise.sublist (List.filter_sublist.map _) h.2⟩
theorem keep_keep (rows : List Rw) : keepR (keepR rows) = keepR rows := by unfold keepR; rw [List.filter_filter]; simp
theorem keep_len (rows : List Rw) : (keepR rows).length ≤ rows.length := List.length_filter_le _ _
def nmsOf (K : List (Bs × List Nat)) : List Bs := K.map Prod.fst
def chsOf (K : List (Bs × List Nat)) : List (List Nat) := K.map Prod.snd
def encR (rows : List Rw) : List (Bs × List Nat) := rows.map fun r => (r.1, chunkL r.2)
theorem makeR_ok {fr sp : Int} {rows : List Rw} (h1 : bndB fr sp = true) (h2 : rows.length ≤ 60) (h3 : RowsOk fr (fr + sp) rows) : makeR fr sp rows = ((0, -1), encR (keepR rows)) := by
  unfold makeR
  rw [if_neg (by rw [h1]; decide), if_neg (by omega), RowsOk_iff.2 h3]
  rfl
theorem makeR_inv {fr sp : Int} {rows : List Rw} (h : (makeR fr sp rows).1.1 = 0) : bndB fr sp = true ∧ rows.length ≤ 60 ∧ RowsOk fr (fr + sp) rows ∧ makeR fr sp rows = ((0, -1), encR (keepR rows)) := by
  have h' := h
  unfold makeR at h
  split at h
  · cases h
  rename_i h1
  split at h
  · cases h
  rename_i h2
  split at h
  · exact absurd h (Nat.succ_ne_zero _)
  rename_i h3
  have h1' : bndB fr sp = true := by simpa using h1
  exact ⟨h1', by omega, RowsOk_iff.1 h3, makeR_ok h1' (by omega) (RowsOk_iff.1 h3)⟩
/-- Rows that are right, none empty: a block has them. -/
theorem rowsR_enc {fr sp : Int} {rows : List Rw} (h1 : bndB fr sp = true) (h2 : rows.length ≤ 60) (h3 : RowsOk fr (fr + sp) rows) (h4 : ∀ r ∈ rows, r.2 ≠ []) (hv : ∀ r ∈ rows, ∀ p ∈ r.2, 0 ≤ p.2 ∧ p.2 < 18446744073709551616) :
    rowsR fr sp (nmsOf (encR rows)) (chsOf (encR rows)) = ((0, -1), rows) := by
  have hn : nmsOf (encR rows) = rows.map Prod.fst := by unfold nmsOf encR; rw [List.map_map]; rfl
  have hc : chsOf (encR rows) = rows.map fun r => chunkL r.2 := by unfold chsOf encR; rw [List.map_map]; rfl
  have hone : ∀ i r, rows[i]? = some r → oneR fr (fr + sp) (rows.map Prod.fst) (rows.map fun r => chunkL r.2) i = .ok r.2 := by
    intro i r hr
    have hm := List.mem_of_getElem? hr
    obtain ⟨ha, hb, hd⟩ := h3.1 r hm
    obtain ⟨hb1, hb2⟩ := ptF_zero.1 hb
    have hi : i < (rows.map Prod.fst).length := by rw [List.length_map]; exact (List.getElem?_eq_some_iff.1 hr).1
    unfold oneR oneV
    rw [rise_dupB h3.2 hi, List.getD_eq_getElem?_getD, List.getD_eq_getElem?_getD, List.getElem?_map, List.getElem?_map, hr]
    simp only [Option.map_some, Option.getD_some]
    rw [if_neg (by simpa using ha), if_neg (by decide), decR_chunk hb2 hb1 (hv r hm)]
    simp only
    rw [if_neg (by intro h; exact h4 r hm (List.eq_nil_of_length_eq_zero h)), if_pos hd]
  unfold rowsR
  rw [hn, hc, if_neg (by rw [h1]; decide), List.length_map, if_neg (by omega), if_neg (by rw [List.length_map]; simp), firstBad_none.2 fun i hi => ⟨_, hone i _ (List.getElem?_eq_getElem hi)⟩]
  simp only [Prod.mk.injEq, true_and]
  refine List.ext_getElem? fun i => ?_
  rw [List.getElem?_map]
  rcases Nat.lt_or_ge i rows.length with hi | hi
  · rw [List.getElem?_range hi, List.getElem?_eq_getElem hi, Option.map_some, hone i _ (List.getElem?_eq_getElem hi), List.getD_eq_getElem?_getD, List.getElem?_map, List.getElem?_eq_getElem hi]
    rfl
  · rw [List.getElem?_eq_none (by simpa using hi), List.getElem?_eq_none hi]; rfl
theorem ptsOf_at {rows : List Rw} (h : (rows.map Prod.fst).Pairwise (· < ·)) {i : Nat} {r : Rw} (hr : rows[i]? = some r) : ptsOf rows r.1 = r.2 := by
  refine ptsOf_hit hr rfl fun j x hj hx e => ?_
  obtain ⟨hi, hi'⟩ := List.getElem?_eq_some_iff.1 hr
  obtain ⟨hj1, hj'⟩ := List.getElem?_eq_some_iff.1 hx
  have := List.pairwise_iff_getElem.1 h j i (by simpa using hj1) (by simpa using hi) hj
  rw [List.getElem_map, List.getElem_map, hi', hj', e] at this
  exact lt_irrefl_bs _ this
theorem bet_all {fr sp : Int} {l : List (Int × Int)} (h : allIn fr (fr + sp) l = true) : betL fr (fr + sp - 1) l = l := by
  unfold betL
  rw [List.filter_eq_self]
  intro p hp
  have := (List.all_eq_true.1 h) p hp
  unfold outB at this
  simp at this
  simp
  omega
end Go.Proofs.YthgefobcohlegaaGreatDoor

namespace Go.Proofs.YthgefobcohlegaaGreatDoor
open Go.RowKit
set_option linter.unusedVariables false

/-- What block.Make and block.Check ask of the world. -/
structure BlkW (es : Nat → Addr) (B : Nat) (w : World) : Prop where
  s : SBk es B w
  t : TabAt w
  tb : 19 < B
  b0 : B ≤ w.heap.size
theorem BlkW.below {es : Nat → Addr} {B C : Nat} {w w' : World} (h : BlkW es B w) (hb : Below C w w') (hC : B ≤ C) : BlkW es B w' :=
  ⟨h.s.below hb hC, h.t.below hb (Nat.lt_of_lt_of_le h.tb hC), h.tb, Nat.le_trans h.b0 hb.size⟩
end Go.Proofs.YthgefobcohlegaaGreatDoor
