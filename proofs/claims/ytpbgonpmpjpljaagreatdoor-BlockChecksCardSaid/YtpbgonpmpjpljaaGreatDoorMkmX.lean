/- Helpers of the blocks' laws: long, ownRows, asModel, SameTexts and SameBlock at blocks that read alike, block.Check. -/
import Derived.Test.YtpbgonpmpjpljaaGreatDoorMklX
import Derived.Test.YtpbgonpmpjpljaaGreatDoorMkeX
namespace Go.Proofs.YtpbgonpmpjpljaaGreatDoor
open Go.RowKit
set_option linter.unusedVariables false

def LongPost (n : Nat) (rows : List RowV) (w : World) (e : Ending) (w' : World) : Prop :=
  ∃ b, e = .returned (.bool b) ∧ (b = false → n ≤ 70 ∧ ∀ r ∈ rows, r.nm.length ≤ 200 ∧ r.pts.length ≤ 250) ∧ Below w.heap.size w w'
theorem LongPost.yes {n : Nat} {rows : List RowV} {w w' : World} (hb : Below w.heap.size w w') : LongPost n rows w (.returned (.bool true)) w' := ⟨true, rfl, fun h => (by cases h), hb⟩
theorem texts_eq (A : Option Addr) (n c : Nat) (A' : Option Addr) (c' : Nat) (l : List ByteArray) (w : World) (hA : Rd w w.heap.size 1 A n (l.map Value.string)) (hA' : Rd w w.heap.size 1 A' n (l.map Value.string)) (hn : n ≤ 100000) :
    Calls Tryz.prog 39 #[.slice A n c, .slice A' n c'] w fun e w' => e = .returned (.bool true) ∧ Below w.heap.size w w' := by
  have HA := Lib.hid hA; have HA' := Lib.hid hA'
  clear hA hA'
  go_enter Tryz.func39, Tryz.ntmps39
  go_wp2
  go_loopw [5] (fun i wr => ∃ k : Nat, k ≤ n ∧ i = .int .i64 k ∧ Below w.heap.size w wr) (fun i _ => n - (intOf i).toNat)
  case atStart => exact ⟨0, Nat.zero_le _, rfl, Below.refl _ _⟩
  case round =>
    obtain ⟨k, hk, rfl, hbel⟩ := hrel
    by_cases hkn : k < n
    · obtain ⟨b0, o0, y, hA0, had0, hy0, e0⟩ := HA.out.at1 hkn
      obtain ⟨b1, o1, z, hA1, had1, hz1, e1⟩ := HA'.out.at1 hkn
      obtain rfl : y = z := Option.some.inj (hy0.symm.trans hz1)
      subst hA0; subst hA1
      have e0' := (hbel.cell (p := ⟨b0, o0 + k, none⟩) had0).trans e0
      have e1' := (hbel.cell (p := ⟨b1, o1 + k, none⟩) had1).trans e1
      have Hbel := Lib.hid hbel
      clear hy0 hz1 e0 e1 hbel
      go_wp2
      go_quiet (fail)
      go_wp2
      go_roundw
      case rel => exact ⟨k + 1, by omega, by go_num, Below.drewN Hbel.out _⟩
      case measure => simp [intOf]; omega
    · obtain rfl : k = n := by omega
      have Hbel := Lib.hid hbel
      clear hbel
      go_wp2
      go_ret
      exact ⟨rfl, Hbel.out⟩
theorem res_am (tmps : Array Value) (W : World) (b : Nat) (v0 v1 v2 v3 : Value) (ha : tmps.getD 2 undef = .pointer (some ⟨b, 0, none⟩)) (hB : Blk W b 24 #[v0, v1, v2, v3]) :
    (results Tryz.f19 tmps).run Tryz.prog W = .ok (.agg #[v0, v1, v2, v3]) W := by
  have z0 := hB.cell 0; have z1 := hB.cell 1; have z2 := hB.cell 2; have z3 := hB.cell 3
  simp only [List.getElem?_toArray, List.getElem?_cons_zero, List.getElem?_cons_succ] at z0 z1 z2 z3
  simp only [Array.getD_eq_getD_getElem?] at ha
  simp [results, Tryz.results19, go_sem, ha, z0, z1, z2, z3]
set_option maxRecDepth 100000 in
theorem asModel_any (fr sp : Int) (A A' : Option Addr) (n c n' c' : Nat) (w : World) :
    Calls Tryz.prog 19 #[.agg #[.int .i64 fr, .int .i64 sp, .slice A n c, .slice A' n' c']] w fun e w' => e = .returned (.agg #[.int .i64 fr, .int .i64 sp, .slice A n c, .slice A' n' c']) ∧ Below w.heap.size w w' := by
  have hb1 : Below w.heap.size w (w.alloc (.cells #[.int .i64 fr, .int .i64 sp, .slice A n c, .slice A' n' c'] 37)) := Below.alloc (Below.refl _ _) (Nat.le_refl _) _
  have Hb := Lib.hid (Below.alloc hb1 hb1.size (.cells #[.int .i64 fr, .int .i64 sp, .slice A n c, .slice A' n' c'] 24))
  have hk := Blk.new (w.alloc (.cells #[.int .i64 fr, .int .i64 sp, .slice A n c, .slice A' n' c'] 37)) 24 #[.int .i64 fr, .int .i64 sp, .slice A n c, .slice A' n' c']
  rw [World.size_alloc] at hk
  have Hk := Lib.hid hk
  clear hb1 hk
  go_enter Tryz.func19, Tryz.ntmps19
  go_wp2
  refine bodyPost_ret (res_am _ _ (w.heap.size + 1) _ _ _ _ rfl Hk.out) rfl ?_
  exact ⟨rfl, Hb.out⟩
set_option maxRecDepth 100000 in
/-- Of two blocks that read alike. -/
theorem sameBlock_eq (fr sp : Int) (A1 A2 A3 A4 : Option Addr) (n c1 c2 m c3 c4 : Nat) (l1 l2 : List ByteArray) (w : World) (h1 : Rd w w.heap.size 1 A1 n (l1.map Value.string)) (h2 : Rd w w.heap.size 1 A2 m (l2.map Value.string)) (h3 : Rd w w.heap.size 1 A3 n (l1.map Value.string)) (h4 : Rd w w.heap.size 1 A4 m (l2.map Value.string)) (hn : n ≤ 100000) (hm : m ≤ 100000) :
    Calls Tryz.prog 18 #[.agg #[.int .i64 fr, .int .i64 sp, .slice A1 n c1, .slice A2 m c2], .agg #[.int .i64 fr, .int .i64 sp, .slice A3 n c3, .slice A4 m c4]] w fun e w' => e = .returned (.bool true) ∧ Below w.heap.size w w' := by
  have hb1 : Below w.heap.size w (w.alloc (.cells #[.int .i64 fr, .int .i64 sp, .slice A1 n c1, .slice A2 m c2] 24)) := Below.alloc (Below.refl _ _) (Nat.le_refl _) _
  have hb2 : Below w.heap.size w ((w.alloc (.cells #[.int .i64 fr, .int .i64 sp, .slice A1 n c1, .slice A2 m c2] 24)).alloc (.cells #[.int .i64 fr, .int .i64 sp, .slice A3 n c3, .slice A4 m c4] 24)) := Below.alloc hb1 hb1.size _
  have hk1 := (Blk.new w 24 #[.int .i64 fr, .int .i64 sp, .slice A1 n c1, .slice A2 m c2]).alloc (.cells #[.int .i64 fr, .int .i64 sp, .slice A3 n c3, .slice A4 m c4] 24)
  have hk2 := Blk.new (w.alloc (.cells #[.int .i64 fr, .int .i64 sp, .slice A1 n c1, .slice A2 m c2] 24)) 24 #[.int .i64 fr, .int .i64 sp, .slice A3 n c3, .slice A4 m c4]
  rw [World.size_alloc] at hk2
  have Ht1 := Lib.hid (fun W (hb : Below w.heap.size w W) => texts_eq A1 n c1 A3 c3 l1 W ((h1.below hb).more hb.size) ((h3.below hb).more hb.size) hn)
  have Ht2 := Lib.hid (fun W (hb : Below w.heap.size w W) => texts_eq A2 m c2 A4 c4 l2 W ((h2.below hb).more hb.size) ((h4.below hb).more hb.size) hm)
  have HB2 := Lib.hid hb2; have HK1 := Lib.hid hk1; have HK2 := Lib.hid hk2
  have e0 := hk1.cell 0; have e1 := hk1.cell 1; have e2 := hk1.cell 2; have e3 := hk1.cell 3
  have f0 := hk2.cell 0; have f1 := hk2.cell 1; have f2 := hk2.cell 2; have f3 := hk2.cell 3
  clear hb1 hb2 hk1 hk2 h1 h2 h3 h4
  go_enter Tryz.func18, Tryz.ntmps18
  go_wp2_with fail
  refine (Ht1.out _ HB2.out).mono ?_
  rintro e w3 ⟨rfl, hb⟩
  have HB3 := Lib.hid (Below.call HB2.out hb HB2.out.size)
  have g1 := HK1.out.below hb HK1.out.lt
  have g2 := HK2.out.below hb HK2.out.lt
  have e2 := g1.cell 2; have e3 := g1.cell 3; have f2 := g2.cell 2; have f3 := g2.cell 3
  clear g1 g2 hb
  go_wp2_with fail
  refine (Ht2.out _ HB3.out).mono ?_
  rintro e w4 ⟨rfl, hb⟩
  have HB4 := Lib.hid (Below.call HB3.out hb HB3.out.size)
  clear hb
  go_wp2
  go_ret
  exact ⟨rfl, HB4.out⟩
def ChkPost (es : Nat → Addr) (f : Nat × Int) (w : World) (e : Ending) (w' : World) : Prop := ∃ v, e = .returned v ∧ EV es w.heap.size w' v f ∧ Below w.heap.size w w'
set_option maxRecDepth 100000 in
theorem bcheck_any {es : Nat → Addr} {B : Nat} (fr sp : Int) (A A' : Option Addr) (n c n' c' : Nat) (ser : List Bs) (ch : List (List Nat)) (w : World) (hS : SBk es B w) (hT : TabAt w) (hTB : 15 < B) (hB0 : B ≤ w.heap.size)
    (hA : Rd w w.heap.size 1 A n (ser.map fun s => .string (B8 s))) (hC : Rd w w.heap.size 1 A' n' (ch.map fun x => .string (bytesOf x))) (hsl : ∀ s ∈ ser, s.length ≤ 100000) (hcl : ∀ x ∈ ch, x.length ≤ 100000 ∧ ∀ b ∈ x, b < 256) :
    Calls Tryz.prog 10 #[.agg #[.int .i64 fr, .int .i64 sp, .slice A n c, .slice A' n' c']] w fun e w' => ChkPost es (rowsR fr sp ser ch).1 w e w' := by
  have hb1 : Below w.heap.size w (w.alloc (.cells #[.int .i64 fr, .int .i64 sp, .slice A n c, .slice A' n' c'] 37)) := Below.alloc (Below.refl _ _) (Nat.le_refl _) _
  have Hrw := Lib.hid (rows_any fr sp A A' n c n' c' ser ch _ (hS.below hb1 hB0) (hT.call hb1 (Nat.le_refl _)) hTB (Nat.le_trans hB0 hb1.size) ((hA.below hb1).more hb1.size) ((hC.below hb1).more hb1.size) hsl hcl)
  have HB1 := Lib.hid hb1
  clear hS hT hTB hB0 hA hC hsl hcl hb1
  generalize rowsR fr sp ser ch = R at Hrw ⊢
  go_enter Tryz.func10, Tryz.ntmps10
  go_wp2_with fail
  refine Hrw.out.mono ?_
  rintro e w2 ⟨v, u, ls, rfl, hev, hown, hro, hmap, hu, hb2⟩
  have HB2 := Lib.hid (Below.call HB1.out hb2 HB1.out.size)
  have HE2 := Lib.hid (hev.base HB1.out.size)
  clear hev hown hro hmap hu hb2
  go_wp2
  go_ret
  exact ⟨_, rfl, HE2.out, HB2.out⟩
end Go.Proofs.YtpbgonpmpjpljaaGreatDoor

namespace Go.Proofs.YtpbgonpmpjpljaaGreatDoor
open Go.RowKit
set_option linter.unusedVariables false

/-- The points of the first row of that name. -/
def ptsOf (rows : List (Bs × List (Int × Int))) (s : Bs) : List (Int × Int) := match rows.find? fun r => decide (r.1 = s) with | some r => r.2 | none => []
theorem ptsOf_hit {rows : List (Bs × List (Int × Int))} {s : Bs} {k : Nat} {r : Bs × List (Int × Int)} (h : rows[k]? = some r) (hr : r.1 = s) (hp : ∀ j x, j < k → rows[j]? = some x → x.1 ≠ s) : ptsOf rows s = r.2 := by
  have : rows.find? (fun r => decide (r.1 = s)) = some r := by
    obtain ⟨hl, hv⟩ := List.getElem?_eq_some_iff.1 h
    rw [List.find?_eq_some_iff_getElem]
    exact ⟨decide_eq_true hr, k, hl, hv, fun j hj => by
      have := hp j _ hj (List.getElem?_eq_getElem (by omega))
      simpa using this⟩
  unfold ptsOf; rw [this]
theorem ptsOf_none {rows : List (Bs × List (Int × Int))} {s : Bs} (hp : ∀ x ∈ rows, x.1 ≠ s) : ptsOf rows s = [] := by
  have : rows.find? (fun r => decide (r.1 = s)) = none := by
    rw [List.find?_eq_none]
    intro x hx
    simpa using hp x hx
  unfold ptsOf; rw [this]
theorem rowsR_le {fr sp : Int} {ser : List Bs} {ch : List (List Nat)} : ∀ p ∈ (rowsR fr sp ser ch).2, p.2.length ≤ 120 := by
  intro p hp
  unfold rowsR at hp
  split at hp
  · cases hp
  split at hp
  · cases hp
  split at hp
  · cases hp
  split at hp
  · cases hp
  · obtain ⟨i, _, rfl⟩ := List.mem_map.1 hp
    show (okL (oneR fr (fr + sp) ser ch i)).length ≤ 120
    cases ho : oneR fr (fr + sp) ser ch i with
    | err c => exact Nat.zero_le _
    | ok l =>
      unfold oneR oneV at ho
      split at ho
      · cases ho
      split at ho
      · cases ho
      split at ho
      · cases ho
      · rename_i l' hd
        split at ho
        · cases ho
        split at ho
        · injection ho with ho
          subst ho
          exact decR_le hd
        · cases ho
theorem rowsR_60 {fr sp : Int} {ser : List Bs} {ch : List (List Nat)} : (rowsR fr sp ser ch).2.length ≤ 60 := by
  unfold rowsR
  split
  · exact Nat.zero_le _
  split
  · exact Nat.zero_le _
  split
  · exact Nat.zero_le _
  split
  · exact Nat.zero_le _
  · rw [List.length_map, List.length_range]; omega
def BPtsPost (es : Nat → Addr) (f : Nat × Int) (L : List (Int × Int)) (w : World) (e : Ending) (w' : World) : Prop :=
  ∃ v u, e = .returned (.tuple #[u, v]) ∧ EV es w.heap.size w' v f ∧ (f.1 ≠ 0 → u = .slice none 0 0) ∧ (f.1 = 0 → w'.ownsRow w.heap.size 57 2 u L.length (ptsC L)) ∧ Below w.heap.size w w'
set_option maxRecDepth 100000 in
set_option maxHeartbeats 4000000 in
theorem bpts_any {es : Nat → Addr} {B : Nat} (fr sp : Int) (A A' : Option Addr) (n c n' c' : Nat) (ser : List Bs) (ch : List (List Nat)) (s : Bs) (f t : Int) (w : World) (hS : SBk es B w) (hT : TabAt w) (hTB : 15 < B) (hB0 : B ≤ w.heap.size)
    (hA : Rd w w.heap.size 1 A n (ser.map fun s => .string (B8 s))) (hC : Rd w w.heap.size 1 A' n' (ch.map fun x => .string (bytesOf x))) (hsl : ∀ s ∈ ser, s.length ≤ 100000) (hcl : ∀ x ∈ ch, x.length ≤ 100000 ∧ ∀ b ∈ x, b < 256) :
    Calls Tryz.prog 7 #[.agg #[.int .i64 fr, .int .i64 sp, .slice A n c, .slice A' n' c'], .string (B8 s), .int .i64 f, .int .i64 t] w fun e w' => BPtsPost es (rowsR fr sp ser ch).1 (betL f t (ptsOf (rowsR fr sp ser ch).2 s)) w e w' := by
  have hb1 : Below w.heap.size w (w.alloc (.cells #[.int .i64 fr, .int .i64 sp, .slice A n c, .slice A' n' c'] 37)) := Below.alloc (Below.refl _ _) (Nat.le_refl _) _
  have Hrw := Lib.hid (rows_any fr sp A A' n c n' c' ser ch _ (hS.below hb1 hB0) (hT.call hb1 (Nat.le_refl _)) hTB (Nat.le_trans hB0 hb1.size) ((hA.below hb1).more hb1.size) ((hC.below hb1).more hb1.size) hsl hcl)
  have Hle := Lib.hid (rowsR_le (fr := fr) (sp := sp) (ser := ser) (ch := ch))
  have h60 := rowsR_60 (fr := fr) (sp := sp) (ser := ser) (ch := ch)
  have HB1 := Lib.hid hb1
  clear hS hT hTB hB0 hA hC hsl hcl hb1
  generalize rowsR fr sp ser ch = R at Hrw Hle h60 ⊢
  obtain ⟨L, hL⟩ : ∃ L, L = betL f t (ptsOf R.2 s) := ⟨_, rfl⟩
  rw [← hL]
  have HL := Lib.hid hL
  clear hL
  go_enter Tryz.func7, Tryz.ntmps7
  go_wp2_with fail
  refine Hrw.out.mono ?_
  rintro e w2 ⟨v, u, ls, rfl, hev, hown, hro, hmap, hu, hb2⟩
  have HB2 := Lib.hid (Below.call HB1.out hb2 HB1.out.size)
  have HE2 := Lib.hid (hev.base HB1.out.size)
  by_cases h0 : R.1.1 = 0
  case neg =>
    obtain ⟨ty, p, rfl⟩ := hev.pos h0
    obtain rfl := hu h0
    have H0 := Lib.hid h0
    clear hev hown hro hmap hu hb2 h0
    go_wp2
    go_ret2
    exact ⟨_, _, rfl, HE2.out, fun _ => rfl, fun h => absurd h H0.out, HB2.out⟩
  obtain rfl := hev.zero h0
  have H0 := Lib.hid h0
  obtain ⟨Ar, cr, rfl, _, _, hrd⟩ := own_form hown
  have hlen : ∀ r ∈ ls, r.pts.length ≤ 120 := fun r hr => Hle.out (r.nm, r.pts) (by rw [← hmap]; exact List.mem_map.2 ⟨r, hr, rfl⟩)
  have hm60 : ls.length ≤ 60 := by
    have e := congrArg List.length hmap
    rw [List.length_map] at e
    omega
  obtain ⟨m, hm⟩ : ∃ m, m = ls.length := ⟨_, rfl⟩
  rw [← hm] at hrd
  have Hat := Lib.hid (fun W (hb : Below w2.heap.size w2 W) (k : Nat) (hk : k < m) => (hrd.below hb).at2 hk)
  have Hro := Lib.hid (fun W (hb : Below w2.heap.size w2 W) => hro.below hb (Nat.le_refl _))
  have Hlen := Lib.hid hlen; have Hmap := Lib.hid hmap; have Hm := Lib.hid hm
  rw [← hm] at hm60 ⊢
  clear hev hown hro hmap hu hb2 h0 hlen hm hrd h60
  go_wp2
  go_loopw [24] (fun kv wr => ∃ k : Nat, k ≤ m ∧ kv = .int .i64 k ∧ Below w2.heap.size w2 wr ∧ ∀ j x, j < k → ls[j]? = some x → x.nm ≠ s) (fun kv _ => m - (intOf kv).toNat)
  case atStart => exact ⟨0, Nat.zero_le _, rfl, Below.refl _ _, fun j x h => absurd h (Nat.not_lt_zero _)⟩
  case round =>
    obtain ⟨k, hk, rfl, hb, hpre⟩ := hrel
    have Hb := Lib.hid hb; have Hpre := Lib.hid hpre
    have HBr := Lib.hid (Below.call HB2.out hb HB2.out.size)
    by_cases hkm : k < m
    · have hkm' : (k : Int) < m := by omega
      obtain ⟨b0, o0, r, hA0, had0, hr, x0, y0⟩ := Hat.out _ hb k hkm
      subst hA0
      have hmem := List.mem_of_getElem? hr
      obtain ⟨Ap, cp, hrv, hc1, hc2, hrp⟩ := own_form (Hro.out _ hb r hmem)
      rw [hrv] at y0
      have hl120 := Hlen.out r hmem
      have Hr := Lib.hid hr
      clear hb hpre hr hmem hrv
      by_cases hn : r.nm = s
      · have hq : ((B8 r.nm).toList == (B8 s).toList) = true := by rw [hn]; exact beq_self_eq_true _
        have HL2 := Lib.hid (show L = betL f t r.pts by
          rw [HL.out]
          refine congrArg _ (ptsOf_hit (k := k) (r := (r.nm, r.pts)) ?_ hn fun j x hj hx => ?_)
          · rw [← Hmap.out, List.getElem?_map, Hr.out]; rfl
          · rw [← Hmap.out, List.getElem?_map] at hx
            obtain ⟨y, hy, rfl⟩ := Option.map_eq_some_iff.1 hx
            exact Hpre.out j y hj hy)
        have Hbt := Lib.hid (fun W (hb : Below wr.heap.size wr W) => between_any Ap r.pts.length cp r.pts f t W ((hrp.below hb).more hb.size) (by omega))
        rw [← HL2.out] at Hbt
        clear hn hrp hl120
        go_wp2_with fail
        refine (Hbt.out _ (Below.alloc (Below.refl _ _) (Nat.le_refl _) _)).mono ?_
        rintro e w5 ⟨v, rfl, hown, hb5⟩
        have hbx : Below wr.heap.size wr w5 := Below.call (Below.alloc (Below.refl _ _) (Nat.le_refl _) _) hb5 (by simp)
        have HB5 := Lib.hid (Below.call HBr.out hbx HBr.out.size)
        have HO5 := Lib.hid (own_base hown (show w.heap.size ≤ _ by have := HBr.out.size; simp; omega))
        have HE5 := Lib.hid (HE2.out.below (Below.call Hb.out hbx Hb.out.size) (Nat.le_refl _))
        obtain ⟨Av, cv, rfl, _, _, _⟩ := own_form hown
        clear hown hb5 hbx
        go_wp2
        go_ret2
        exact ⟨_, _, rfl, HE5.out, fun h => absurd H0.out h, fun _ => HO5.out, HB5.out⟩
      · have hq : ((B8 r.nm).toList == (B8 s).toList) = false := by rw [beq_eq_false_iff_ne, B8_toList, B8_toList]; exact hn
        have Hn := Lib.hid (show ∀ j x, j < k + 1 → ls[j]? = some x → x.nm ≠ s from fun j x hj hx => by
          rcases Nat.lt_or_ge j k with h | h
          · exact Hpre.out j x h hx
          · obtain rfl : j = k := by omega
            rw [Hr.out] at hx
            injection hx with hx
            rw [← hx]; exact hn)
        clear hn
        go_wp2
        go_roundw
        case rel => exact ⟨k + 1, by omega, by go_num, Below.alloc Hb.out Hb.out.size _, Hn.out⟩
        case measure => simp [intOf]; omega
    · obtain rfl : k = m := by omega
      have hkm' : ¬ (k : Int) < k := by omega
      have Hno := Lib.hid (show L = [] by
        rw [HL.out, ptsOf_none (fun x hx => by
          rw [← Hmap.out] at hx
          obtain ⟨r, hr, rfl⟩ := List.mem_map.1 hx
          obtain ⟨j, hj, rfl⟩ := List.getElem_of_mem hr
          exact Hpre.out j _ (by rw [Hm.out]; exact hj) (List.getElem?_eq_getElem hj))]
        rfl)
      clear hb hpre
      go_wp2
      go_ret2
      exact ⟨_, _, rfl, HE2.out.below Hb.out (Nat.le_refl _), fun h => absurd H0.out h, fun _ => by rw [Hno.out]; exact World.ownsRow_nil _ _ _ _, HBr.out⟩
end Go.Proofs.YtpbgonpmpjpljaaGreatDoor
