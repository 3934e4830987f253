/- (Block).chunk by its contract. -/
import Derived.Test.YthgefobcohlegaaGreatDoorMkoX
import Derived.Test.YthgefobcohlegaaGreatDoorMkcX
import Derived.Test.YthgefobcohlegaaGreatDoorBaseX
import Derived.OrdersHeld
import Derived.Deep.RegionHeld
namespace Go.Proofs.YthgefobcohlegaaGreatDoor
open Go.RowKit
set_option linter.unusedVariables false

/-- Rows that can be read. -/
def RowsRd (w : World) (B : Nat) (A : Option Addr) (n : Nat) (l : List RowV) : Prop :=
  Rd w B 2 A n (rowC l) ∧ ∀ r ∈ l, ∃ A' c', r.v = .slice A' r.pts.length c' ∧ Rd w B 2 A' r.pts.length (ptsC r.pts)
theorem RowsRd.below {w w' : World} {B C : Nat} {A : Option Addr} {n : Nat} {l : List RowV} (h : RowsRd w B A n l) (hb : Below C w w') (hC : B ≤ C) : RowsRd w' B A n l :=
  ⟨h.1.belowOf hb hC, fun r hr => by obtain ⟨A', c', h1, h2⟩ := h.2 r hr; exact ⟨A', c', h1, h2.belowOf hb hC⟩⟩
theorem RowsRd.more {w : World} {B B' : Nat} {A : Option Addr} {n : Nat} {l : List RowV} (h : RowsRd w B A n l) (hC : B ≤ B') : RowsRd w B' A n l :=
  ⟨h.1.more hC, fun r hr => by obtain ⟨A', c', h1, h2⟩ := h.2 r hr; exact ⟨A', c', h1, h2.more hC⟩⟩
theorem RowsRd.len {w : World} {B : Nat} {A : Option Addr} {n : Nat} {l : List RowV} (h : RowsRd w B A n l) : l.length = n := by
  have := h.1.1
  unfold rowC at this
  rw [flat_len (fun r : RowV => [Value.string (B8 r.nm), r.v]) 2 (fun _ => rfl)] at this; omega
def mkV (f : Nat × Int) (dup : Bool) (p : Nat × Int) (inn : Bool) : Option Nat :=
  if f.1 ≠ 0 then some (f.1 - 1) else if dup = true then some 2 else if p.1 ≠ 0 then some (p.1 - 1) else if inn = true then none else some 1
/-- What (Block).chunk finds wrong with row i. -/
def mkR (fr en : Int) (rows : List (Bs × List (Int × Int))) (i : Nat) : Option Nat :=
  mkV (rdF (rows.getD i ([], [])).1) (dupB (rows.map Prod.fst) i) (ptF (rows.getD i ([], [])).2) (allIn fr en (rows.getD i ([], [])).2)
def rowP2 (r : RowV) : Bs × List (Int × Int) := (r.nm, r.pts)
set_option maxRecDepth 100000 in
set_option maxHeartbeats 4000000 in
theorem bchunk_any {es : Nat → Addr} {B : Nat} (fr sp en : Int) (A1 A2 A : Option Addr) (n1 c1 n2 c2 n c : Nat) (rows : List RowV) (i : Nat) (w : World) (hS : SBk es B w) (hT : TabAt w) (hB0 : B ≤ w.heap.size)
    (hA : RowsRd w w.heap.size A n rows) (hn : n ≤ 60) (hi : i < n) (hsl : ∀ r ∈ rows, r.nm.length ≤ 100000 ∧ ∀ p ∈ r.pts, 0 ≤ p.2 ∧ p.2 < 18446744073709551616) (hE : en = fr + sp) (hE1 : -9223372036854775808 ≤ fr + sp) (hE2 : fr + sp < 9223372036854775808) :
    Calls Tryz.prog 90 #[.agg #[.int .i64 fr, .int .i64 sp, .slice A1 n1 c1, .slice A2 n2 c2], .slice A n c, .int .i64 (i : Int)] w fun e w' =>
      (∀ k, mkR fr en (rows.map rowP2) i = some k → e = .returned (.tuple #[.string ⟨#[]⟩, sentV (es k)])) ∧
      (mkR fr en (rows.map rowP2) i = none → e = .returned (.tuple #[.string (bytesOf (chunkL ((rows.map rowP2).getD i ([], [])).2)), .nilIface])) ∧ Below w.heap.size w w' := by
  obtain ⟨b0, o0, r, rfl, had0, hr, x0, y0⟩ := hA.1.at2 hi
  obtain ⟨hsl1, hpv⟩ := hsl r (List.mem_of_getElem? hr)
  obtain ⟨Ap, cp, hrv, hrp⟩ := hA.2 r (List.mem_of_getElem? hr)
  rw [hrv] at y0
  clear hrv
  obtain ⟨j, s', hj1, hj2, hj3, xj, hdup⟩ : ∃ (j : Nat) (s' : Bs), (0 < i → i ≤ j + 1) ∧ (0 < i → j + 1 ≤ i) ∧ j < n ∧ w.cell? ⟨b0, o0 + j * 2, none⟩ = some (.string (B8 s')) ∧ dupB ((rows.map rowP2).map Prod.fst) i = (decide (0 < i) && leS r.nm s') := by
    have hj : i - 1 < n := by omega
    obtain ⟨b2, o2, r', e2, _, hs', x2, _⟩ := hA.1.at2 hj
    injection e2 with e2
    injection e2 with e2 e3
    subst e2; subst e3
    refine ⟨i - 1, r'.nm, fun h => by omega, fun h => by omega, hj, x2, ?_⟩
    unfold dupB
    rw [List.getD_eq_getElem?_getD, List.getD_eq_getElem?_getD, List.getElem?_map, List.getElem?_map, List.getElem?_map, List.getElem?_map, hr, hs']
    rfl
  have hg0 : (rows.map rowP2).getD i ([], []) = (r.nm, r.pts) := by rw [List.getD_eq_getElem?_getD, List.getElem?_map, hr]; rfl
  have hone : mkR fr en (rows.map rowP2) i = mkV (rdF r.nm) (decide (0 < i) && leS r.nm s') (ptF r.pts) (allIn fr en r.pts) := by
    unfold mkR
    rw [hdup, hg0]
  rw [hone, hg0]
  clear hone hdup hr hsl hg0 hA
  obtain ⟨s, hsn⟩ : ∃ s, r.nm = s := ⟨_, rfl⟩
  obtain ⟨ps, hps⟩ : ∃ ps, r.pts = ps := ⟨_, rfl⟩
  rw [hsn] at x0 hsl1 ⊢
  rw [hps] at y0 hpv hrp ⊢
  clear hsn hps r
  obtain ⟨m, hm⟩ : ∃ m, m = ps.length := ⟨_, rfl⟩
  rw [← hm] at y0 hrp
  have Hm := Lib.hid hm
  clear hm
  have hb1 : Below w.heap.size w (w.alloc (.cells #[.int .i64 fr, .int .i64 sp, .slice A1 n1 c1, .slice A2 n2 c2] 85)) := Below.alloc (Below.refl _ _) (Nat.le_refl _) _
  have hk1 := Blk.new w 85 #[.int .i64 fr, .int .i64 sp, .slice A1 n1 c1, .slice A2 n2 c2]
  have Hl := Lib.hid (fun W (hb : Below w.heap.size w W) => lread_u s hsl1 W (hS.below hb hB0).vl (Nat.le_trans hB0 hb.size))
  have He := Lib.hid (fun W (hb : Below w.heap.size w W) => encode_u Ap m cp ps W (hS.below hb hB0).v (hT.call hb (Nat.le_refl _)) (Nat.le_trans hB0 hb.size) ((hrp.below hb).more hb.size) hpv)
  have Hw := Lib.hid (fun W (hb : Below w.heap.size w W) (hn : m ≤ 100000) => within_any Ap m cp ps fr en W ((hrp.below hb).more hb.size) hn)
  have Hbare := Lib.hid (fun C v c W (hb : Below w.heap.size w W) (hv : EV es C W v c) (hc : c.1 ≠ 0) => cbare_any v c W hv hc (hS.below hb hB0) (Nat.le_trans hB0 hb.size))
  have Hx := Lib.hid (fun W (hb : Below w.heap.size w W) => show W.cell? ⟨b0, o0 + i * 2, none⟩ = some (.string (B8 s)) ∧ W.cell? ⟨b0, o0 + j * 2, none⟩ = some (.string (B8 s')) ∧ W.cell? ⟨b0, o0 + i * 2 + 1, none⟩ = some (.slice Ap m cp) from
    ⟨(hb.cell (p := ⟨b0, o0 + i * 2, none⟩) had0).trans x0, (hb.cell (p := ⟨b0, o0 + j * 2, none⟩) had0).trans xj, (hb.cell (p := ⟨b0, o0 + i * 2 + 1, none⟩) had0).trans y0⟩)
  have Hg := Lib.hid (fun W (hb : Below w.heap.size w W) => show W.cell? ⟨0, 0, none⟩ = some (sentV (es 1)) ∧ W.cell? ⟨3, 0, none⟩ = some (sentV (es 2)) from
    ⟨(hS.below hb hB0).var 1 (by decide), (hS.below hb hB0).var 2 (by decide)⟩)
  have Hend := Lib.hid (fun W => bend_any fr sp en A1 A2 n1 c1 n2 c2 hE hE1 hE2 W)
  have HB1 := Lib.hid hb1; have HK1 := Lib.hid hk1
  have hin : (i : Int) < n := by omega
  have hcmp : (Op.bytesLess (B8 s).toList (B8 s').toList || (B8 s).toList == (B8 s').toList) = leS s s' := by rw [B8_toList, B8_toList]; rfl
  have Hcmp := Lib.hid hcmp
  clear x0 xj y0 hsl1 hpv hS hT hb1 hk1 hE hE1 hE2 hB0 hcmp hrp
  obtain ⟨x0, xj, y0⟩ := Hx.out _ HB1.out
  obtain ⟨fc, hfc⟩ : ∃ fc, rdF s = fc := ⟨_, rfl⟩
  rw [hfc] at Hl ⊢
  obtain ⟨pf, hpf⟩ : ∃ pf, ptF ps = pf := ⟨_, rfl⟩
  have Hpf := Lib.hid hpf
  rw [hpf] at He ⊢
  clear hfc hpf
  go_enter Tryz.func90, Tryz.ntmps90
  go_wp2_with fail
  have hkr := Blk.new (w.alloc (.cells #[.int .i64 fr, .int .i64 sp, .slice A1 n1 c1, .slice A2 n2 c2] 85)) 58 #[.string (B8 s), .slice Ap m cp]
  rw [World.size_alloc] at hkr
  have HK2 := Lib.hid (HK1.out.alloc (.cells #[.string (B8 s), .slice Ap m cp] 58))
  have HB2 := Lib.hid (Below.alloc HB1.out HB1.out.size (.cells #[.string (B8 s), .slice Ap m cp] 58))
  have HR2 := Lib.hid hkr
  clear hkr x0 xj y0
  generalize (w.alloc (.cells #[.int .i64 fr, .int .i64 sp, .slice A1 n1 c1, .slice A2 n2 c2] 85)).alloc (.cells #[.string (B8 s), .slice Ap m cp] 58) = w2 at HK2 HB2 HR2 ⊢
  refine (Hl.out _ HB2.out).mono ?_
  rintro e w3 ⟨v, u, l, rfl, hev, hown, _, _, hb3⟩
  obtain ⟨Au, cu, rfl, _, _, _⟩ := own_form hown
  have HB3 := Lib.hid (Below.call HB2.out hb3 HB2.out.size)
  have HK3 := Lib.hid (HK2.out.below hb3 HK2.out.lt)
  have HR3 := Lib.hid (HR2.out.below hb3 HR2.out.lt)
  obtain ⟨x0, xj, y0⟩ := Hx.out _ HB3.out
  obtain ⟨e1, e2⟩ := Hg.out _ HB3.out
  have q0 := HK3.out.cell 0
  have q1 := HK3.out.cell 1
  have q2 := HK3.out.cell 2
  have q3 := HK3.out.cell 3
  have r0 := HR3.out.cell 0
  have r1 := HR3.out.cell 1
  have Hev := Lib.hid hev
  clear hown hb3
  by_cases hc0 : fc.1 = 0
  case neg =>
    obtain ⟨t, p, rfl⟩ := hev.pos hc0
    have Hbb := Lib.hid (Hbare.out _ _ _ _ HB3.out Hev.out hc0)
    have Hone := Lib.hid (show mkV fc (decide (0 < i) && leS s s') pf (allIn fr en ps) = some (fc.1 - 1) from if_pos hc0)
    clear hev hc0
    go_wp2_with fail
    refine Hbb.out.mono ?_
    rintro e w4 ⟨rfl, hb4⟩
    have HB4 := Lib.hid (Below.call HB3.out hb4 HB3.out.size)
    clear hb4
    go_wp2
    go_ret2
    exact ⟨fun k h => (by rw [Hone.out] at h; injection h with h; subst h; rfl), fun h => (by rw [Hone.out] at h; cases h), HB4.out⟩
  obtain rfl := hev.zero hc0
  clear hev
  by_cases hdu : (decide (0 < i) && leS s s') = true
  · have Hone := Lib.hid (show mkV fc (decide (0 < i) && leS s s') pf (allIn fr en ps) = some 2 by unfold mkV; rw [if_neg (by simpa using hc0), if_pos hdu])
    have hi0 : 0 < i := by rw [Bool.and_eq_true, decide_eq_true_eq] at hdu; exact hdu.1
    have hle := Hcmp.out
    rw [show leS s s' = true by rw [Bool.and_eq_true] at hdu; exact hdu.2] at hle
    have hi0' : (0 : Int) < i := by omega
    have hd0 : decide ((0 : Int) < i) = true := decide_eq_true hi0'
    have hd1 : decide (0 < i) = true := decide_eq_true hi0
    have hw : IntKind.i64.wrap ((i : Int) - 1) = (j : Int) := by rw [IntKind.wrap_i64]; have := hj1 hi0; have := hj2 hi0; omega
    have hjn : (j : Int) < n := by omega
    clear hdu hj1 hj2 hc0
    go_wp2
    go_quiet (fail)
    go_wp2
    go_quiet (fail)
    go_wp2
    go_ret2
    exact ⟨fun k h => (by rw [Hone.out] at h; injection h with h; subst h; rfl), fun h => (by rw [Hone.out] at h; cases h), by first | exact HB3.out | exact Below.drewN HB3.out _ | exact Below.drewN (Below.drewN HB3.out _) _⟩
  have Hdu := Lib.hid (show (decide (0 < i) && leS s s') = false by simpa using hdu)
  have hov : mkV fc (decide (0 < i) && leS s s') pf (allIn fr en ps) = if pf.1 ≠ 0 then some (pf.1 - 1) else if allIn fr en ps = true then none else some 1 := by
    unfold mkV; rw [if_neg (by simpa using hc0), if_neg hdu]
  clear hdu hc0
  have Hov := Lib.hid hov
  clear hov
  have hw : 0 < i → IntKind.i64.wrap ((i : Int) - 1) = (j : Int) := fun h => by rw [IntKind.wrap_i64]; have := hj1 h; have := hj2 h; omega
  have hjn : (j : Int) < n := by omega
  clear hj1 hj2
  rcases Nat.eq_zero_or_pos i with h0 | h0
  case' inl =>
    have hd0 : decide ((0 : Int) < i) = false := decide_eq_false (by omega)
    have hd1 : decide (0 < i) = false := decide_eq_false (by omega)
    clear hw h0
    go_wp2
    go_quiet (fail)
  case' inr =>
    have hd0 : decide ((0 : Int) < i) = true := decide_eq_true (by omega)
    have hd1 : decide (0 < i) = true := decide_eq_true h0
    have hle := Hcmp.out
    rw [show leS s s' = false by have := Hdu.out; rw [decide_eq_true h0, Bool.true_and] at this; exact this] at hle
    replace hw := hw h0
    clear h0
    go_wp2
    go_quiet (fail)
    clear hle hw
  all_goals
    have HB4 := Lib.hid (show Below w.heap.size w (w3.drewN nq) from Below.drewN HB3.out nq)
    have HK4 := Lib.hid (HK3.out.drewN nq)
    have HR4 := Lib.hid (HR3.out.drewN nq)
    clear x0 xj y0 e1 e2 q0 q1 q2 q3 r0 r1 hd0 hd1
    generalize w3.drewN nq = w4 at HB4 HK4 HR4 ⊢
    have r1 := HR4.out.cell 1
    go_wp2_with fail
    refine (He.out _ HB4.out).mono ?_
    rintro e w5 ⟨v, st, rfl, hev, hst, hb5⟩
    have HB5 := Lib.hid (Below.call HB4.out hb5 HB4.out.size)
    have HK5 := Lib.hid (HK4.out.below hb5 HK4.out.lt)
    have HR5 := Lib.hid (HR4.out.below hb5 HR4.out.lt)
    have Hev5 := Lib.hid hev
    clear hb5 r1
    by_cases hp0 : pf.1 = 0
    case' neg =>
      obtain ⟨t, p, rfl⟩ := hev.pos hp0
      have Hbb := Lib.hid (Hbare.out _ _ _ _ HB5.out Hev5.out hp0)
      have Hone := Lib.hid (show mkV fc (decide (0 < i) && leS s s') pf (allIn fr en ps) = some (pf.1 - 1) by rw [Hov.out, if_pos hp0])
      clear hev hp0 hst
      go_wp2_with fail
      refine Hbb.out.mono ?_
      rintro e w6 ⟨rfl, hb6⟩
      have HB6 := Lib.hid (Below.call HB5.out hb6 HB5.out.size)
      clear hb6
      go_wp2
      go_ret2
      exact ⟨fun k h => (by rw [Hone.out] at h; injection h with h; subst h; rfl), fun h => (by rw [Hone.out] at h; cases h), HB6.out⟩
    obtain rfl := hev.zero hp0
    obtain rfl := hst hp0
    have hm100 : m ≤ 100000 := by
      rw [Hm.out]
      rcases ptF_cases ps with ⟨_, e⟩ | ⟨h, _⟩ | ⟨h, _⟩
      · rw [Hpf.out] at e; rw [e] at hp0; cases hp0
      · omega
      · omega
    have Hno := Lib.hid (show mkV fc (decide (0 < i) && leS s s') pf (allIn fr en ps) = if allIn fr en ps = true then none else some 1 by rw [Hov.out, if_neg (by simpa using hp0)])
    have Hw5 := Lib.hid (fun W (hb : Below w.heap.size w W) => Hw.out W hb hm100)
    clear hev hst hp0 hm100
    obtain ⟨ai, hai⟩ : ∃ ai, allIn fr en ps = ai := ⟨_, rfl⟩
    rw [hai] at Hw5
    have Hai := Lib.hid hai
    clear hai
    have HBd := Lib.hid (show Below w.heap.size w w5.drew from HB5.out.drew)
    have HKd := Lib.hid (HK5.out.drew)
    have HRd := Lib.hid (HR5.out.drew)
    have Hkc := Lib.hid (fun W (h : Blk W w.heap.size 85 #[.int .i64 fr, .int .i64 sp, .slice A1 n1 c1, .slice A2 n2 c2]) (h2 : Blk W (w.heap.size + 1) 58 #[.string (B8 s), .slice Ap m cp]) => show W.cell? ⟨w.heap.size, 0, none⟩ = some (.int .i64 fr) ∧ W.cell? ⟨w.heap.size, 1, none⟩ = some (.int .i64 sp) ∧ W.cell? ⟨w.heap.size, 2, none⟩ = some (.slice A1 n1 c1) ∧ W.cell? ⟨w.heap.size, 3, none⟩ = some (.slice A2 n2 c2) ∧ W.cell? ⟨w.heap.size + 1, 1, none⟩ = some (.slice Ap m cp) from ⟨h.cell 0, h.cell 1, h.cell 2, h.cell 3, h2.cell 1⟩)
    go_wp2
    go_region_held3 (fun w' => w'.cell? ⟨w.heap.size, 0, none⟩ = some (.int .i64 fr) ∧ w'.cell? ⟨w.heap.size, 1, none⟩ = some (.int .i64 sp) ∧ w'.cell? ⟨w.heap.size, 2, none⟩ = some (.slice A1 n1 c1) ∧ w'.cell? ⟨w.heap.size, 3, none⟩ = some (.slice A2 n2 c2) ∧ w'.cell? ⟨w.heap.size + 1, 1, none⟩ = some (.slice Ap m cp))
      (first | with_reducible exact Hkc.out _ HKd.out HRd.out | with_reducible exact Hkc.out _ HK6.out HR6.out | with_reducible exact Hkc.out _ HK7.out HR7.out)
      (first | (go_at_call 28; refine (Hend.out _).mono ?_; rintro e w6 ⟨rfl, hb⟩; have HB6 := Lib.hid (Below.call HBd.out hb HBd.out.size); have HK6 := Lib.hid (HKd.out.below hb HKd.out.lt); have HR6 := Lib.hid (HRd.out.below hb HRd.out.lt); clear hb) | (go_at_call 121; refine (Hw5.out _ HB6.out).mono ?_; rintro e w7 ⟨rfl, hb⟩; have HB7 := Lib.hid (Below.call HB6.out hb HB6.out.size); have HK7 := Lib.hid (HK6.out.below hb HK6.out.lt); have HR7 := Lib.hid (HR6.out.below hb HR6.out.lt); clear hb))
    all_goals
      obtain ⟨e1, _⟩ := Hg.out _ HB7.out
      cases ai
      · have Hre := Lib.hid (show mkV fc (decide (0 < i) && leS s s') pf (allIn fr en ps) = some 1 by rw [Hno.out, Hai.out]; rfl)
        go_wp2
        go_quiet (fail)
        go_wp2
        go_ret2
        exact ⟨fun k h => (by rw [Hre.out] at h; injection h with h; subst h; rfl), fun h => (by rw [Hre.out] at h; cases h), by first | exact HB7.out | exact Below.drewN HB7.out _ | exact Below.drewN (Below.drewN HB7.out _) _⟩
      · have Hre := Lib.hid (show mkV fc (decide (0 < i) && leS s s') pf (allIn fr en ps) = none by rw [Hno.out, Hai.out]; rfl)
        go_wp2
        go_ret2
        exact ⟨fun k h => (by rw [Hre.out] at h; cases h), fun h => rfl, by first | exact HB7.out | exact Below.drewN HB7.out _ | exact Below.drewN (Below.drewN HB7.out _) _⟩
end Go.Proofs.YthgefobcohlegaaGreatDoor

namespace Go.Proofs.YthgefobcohlegaaGreatDoor
open Go.RowKit
set_option linter.unusedVariables false

end Go.Proofs.YthgefobcohlegaaGreatDoor

namespace Go.Proofs.YthgefobcohlegaaGreatDoor
open Go.RowKit
set_option linter.unusedVariables false

/-- The first of n that is wrong. -/
def firstM (g : Nat → Option Nat) : Nat → Option (Nat × Nat)
  | 0 => none
  | n + 1 => match firstM g n with
    | some x => some x
    | none => match g n with
      | some c => some (c, n)
      | none => none
theorem firstM_ok {g : Nat → Option Nat} {n : Nat} (h : firstM g n = none) (h2 : g n = none) : firstM g (n + 1) = none := by
  unfold firstM; rw [h, h2]
theorem firstM_err {g : Nat → Option Nat} {n c : Nat} (h : firstM g n = none) (h2 : g n = some c) : ∀ m, n < m → firstM g m = some (c, n) := by
  intro m
  induction m with
  | zero => intro h3; omega
  | succ m ih =>
    intro h3
    rcases Nat.lt_or_ge n m with h4 | h4
    · unfold firstM; rw [ih h4]
    · obtain rfl : n = m := by omega
      unfold firstM; rw [h, h2]
/-- The rows that have points. -/
def keepR (rows : List (Bs × List (Int × Int))) : List (Bs × List (Int × Int)) := rows.filter fun r => decide (r.2 ≠ [])
/-- What Make answers: number and place of what is wrong; the names and the chunks. -/
def makeR (fr sp : Int) (rows : List (Bs × List (Int × Int))) : (Nat × Int) × List (Bs × List Nat) :=
  if bndB fr sp = false then ((2, -1), []) else if 60 < rows.length then ((2, -1), []) else
  match firstM (mkR fr (fr + sp) rows) rows.length with
  | some (c, i) => ((c + 1, (i : Int)), [])
  | none => ((0, -1), (keepR rows).map fun r => (r.1, chunkL r.2))
theorem mkR_code {fr en : Int} {rows : List (Bs × List (Int × Int))} {i c : Nat} (h : mkR fr en rows i = some c) : c < 11 := by
  unfold mkR mkV at h
  split at h
  · injection h with h
    have := rdF_le (rows.getD i ([], [])).1
    omega
  split at h
  · injection h with h; omega
  split at h
  · injection h with h
    rcases ptF_cases (rows.getD i ([], [])).2 with ⟨_, e⟩ | ⟨_, k, _, _, _, e⟩ | ⟨_, _, e⟩
    · rw [e] at h; simp only at h; omega
    · rw [e] at h; simp only at h; unfold codeAt at h; split at h <;> omega
    · rw [e] at h; simp only at h; omega
  split at h
  · cases h
  · injection h with h; omega
/-- Two slices of one kind, apart. -/
structure Pair (w : World) (base : Nat) (e : TypeId) (v1 : Value) (n1 : Nat) (xs1 : List Value) (v2 : Value) (n2 : Nat) (xs2 : List Value) : Prop where
  l : w.ownsRow base e 1 v1 n1 xs1
  r : w.ownsRow base e 1 v2 n2 xs2
  ap : ∀ k, v1.ownBlock = some k → v2.ownBlock ≠ some k
section
variable {w w' wa : World} {base n1 n2 : Nat} {e : TypeId} {v1 v2 v' : Value} {xs1 xs2 ys : List Value}
theorem Pair.fr (h : Pair w base e v1 n1 xs1 v2 n2 xs2) (hf : Fr (fun _ => False) w w') : Pair w' base e v1 n1 xs1 v2 n2 xs2 :=
  ⟨hf.own h.l fun _ _ h => h, hf.own h.r fun _ _ h => h, h.ap⟩
theorem Pair.left {m : Nat} (h : Pair w base e v1 n1 xs1 v2 n2 xs2) (hf : Fr (fun _ => False) w w') (hg : w'.grownBy wa v1.ownBlock) (ho : wa.ownsRow base e 1 v' m ys) (hat : v'.ownBlock = v1.ownBlock ∨ v'.ownBlock = some w'.heap.size) : Pair wa base e v' m ys v2 n2 xs2 :=
  ⟨ho, ((Fr.refl (fun k => v1.ownBlock = some k) w').grown hg (fun k hk => .inr hk)).own (hf.own h.r fun _ _ h => h) (fun k hk hs => h.ap k hs hk), fun k hk => by
    rcases hat with h1 | h1
    · rw [h1] at hk; exact h.ap k hk
    · rw [h1] at hk
      injection hk with hk
      intro h2
      have := (own_lt h.r k h2).2
      have := hf.size
      omega⟩
theorem Pair.right {m : Nat} (h : Pair w base e v1 n1 xs1 v2 n2 xs2) (hf : Fr (fun _ => False) w w') (hg : w'.grownBy wa v2.ownBlock) (ho : wa.ownsRow base e 1 v' m ys) (hat : v'.ownBlock = v2.ownBlock ∨ v'.ownBlock = some w'.heap.size) : Pair wa base e v1 n1 xs1 v' m ys :=
  ⟨((Fr.refl (fun k => v2.ownBlock = some k) w').grown hg (fun k hk => .inr hk)).own (hf.own h.l fun _ _ h => h) (fun k hk hs => h.ap k hk hs), ho, fun k hk => by
    rcases hat with h1 | h1
    · rw [h1]; exact h.ap k hk
    · rw [h1]
      intro h2
      injection h2 with h2
      have := (own_lt h.l k hk).2
      have := hf.size
      omega⟩
end
def txS (l : List (Bs × List Nat)) : List Value := l.map fun r => .string (B8 r.1)
def chS (l : List (Bs × List Nat)) : List Value := l.map fun r => .string (bytesOf r.2)
end Go.Proofs.YthgefobcohlegaaGreatDoor

namespace Go.Proofs.YthgefobcohlegaaGreatDoor
open Go.RowKit
set_option linter.unusedVariables false

section
variable {P : Program} {ops : Array Oper} {Q : Exit → Act → World → Prop} {md : Region.Mode} {S : World → Prop} {gs : List Nat}

/-- Has none of gs come up? -/
def noneUp (gs : List Nat) (listed : Array Bool) : Bool := gs.all fun g => !listed.getD g true
/-- Whatever order is picked from here on; S holds behind every operation, so long as none of gs has come up. -/
def wpAnyG (P : Program) (md : Region.Mode) (ops : Array Oper) (Q : Exit → Act → World → Prop) (S : World → Prop) (gs : List Nat) : Nat → Array Bool → Act → World → Prop
  | 0, listed, a, w => Region.ready md ops listed = [] ∧ Q .normal a w
  | fuel + 1, listed, a, w =>
    (Region.ready md ops listed = [] → Q .normal a w) ∧
    ∀ i ∈ Region.ready md ops listed, wpOp P ops Q i (fun a' w' => (noneUp gs (listed.setIfInBounds i true) = true → S w') ∧ wpAnyG P md ops Q S gs fuel (listed.setIfInBounds i true) a' w') a w
theorem wpAny_of_G : ∀ (fuel : Nat) (listed : Array Bool) (a : Act) (w : World), wpAnyG P md ops Q S gs fuel listed a w → wpAny P md ops Q fuel listed a w
  | 0, _, _, _, h => h
  | fuel + 1, _, _, _, h => ⟨h.1, fun i hi => wpOp_mono (fun a' w' h' => wpAny_of_G fuel _ a' w' h'.2) (h.2 i hi)⟩
theorem noneUp_set {listed : Array Bool} {i : Nat} (hi : i ∉ gs) : noneUp gs (listed.setIfInBounds i true) = noneUp gs listed := by
  unfold noneUp
  rw [Bool.eq_iff_iff, List.all_eq_true, List.all_eq_true]
  refine forall_congr' fun g => forall_congr' fun hg => ?_
  have e : i ≠ g := fun e => hi (by rw [e]; exact hg)
  rw [getD_set_ne true e]
/-- Every store of gs waits for i. -/
def waitAll (md : Region.Mode) (ops : Array Oper) (gs : List Nat) (i : Nat) : Bool := gs.all fun g => match ops[g]? with
  | some o => o.after.any fun e => Region.binds md e && e.on == i
  | none => true
theorem waitAll_spec {i g : Nat} {o : Oper} (h : waitAll md ops gs i = true) (hg : g ∈ gs) (ho : ops[g]? = some o) : ∃ e ∈ o.after, Region.binds md e = true ∧ e.on = i := by
  have := (List.all_eq_true.1 h) g hg
  rw [ho] at this
  simp only at this
  obtain ⟨e, he, hb⟩ := Array.any_eq_true'.1 this
  rw [Bool.and_eq_true, beq_iff_eq] at hb
  exact ⟨e, he, hb.1, hb.2⟩
theorem wpAnyG_first {i : Nat} {oi : Oper} {v : Value} (hi : ops[i]? = some oi) (hsel : ∀ (j : Nat) (o : Oper) cs b, ops[j]? = some o → o.op ≠ .select cs b)
    (hQ : ∀ c a w, Q (.panic c) (a.put oi.dst v) w → Q (.panic c) a w) (hig : i ∉ gs) (hwt : waitAll md ops gs i = true) :
    ∀ (fuel : Nat) (listed : Array Bool) (a : Act) (w : World),
      (∀ j oj, ops[j]? = some oj → j ≠ i → listed.getD j true = false → (∀ e ∈ oj.after, Region.binds md e = true → e.on ≠ i) → oi.apart ops oj = true) → noneUp gs listed = true →
      i ∈ Region.ready md ops listed → YieldsIf P ops S oi v a → S w →
      wpAnyG P md ops Q S gs fuel (listed.setIfInBounds i true) (a.put oi.dst v) w → wpAnyG P md ops Q S gs (fuel + 1) listed a w := by
  intro fuel
  induction fuel with
  | zero =>
    intro listed a w _ hn hr hy hS H
    refine ⟨fun h => (by rw [h] at hr; cases hr), fun j hj => ?_⟩
    by_cases hji : j = i
    · subst hji; exact hy.wpOp hi hS ⟨fun _ => hS, H⟩
    · have := ready_mono hj hji
      rw [H.1] at this
      cases this
  | succ fuel ih =>
    intro listed a w hfree hn hr hy hS H
    refine ⟨fun h => (by rw [h] at hr; cases hr), fun j hj => ?_⟩
    by_cases hji : j = i
    · subst hji; exact hy.wpOp hi hS ⟨fun _ => hS, H⟩
    · have h1 := H.2 j (ready_mono hj hji)
      obtain ⟨hjun, oj, hoj, hall⟩ := mem_ready.1 hj
      have hnot : ∀ e ∈ oj.after, Region.binds md e = true → e.on ≠ i := fun e he hb heq => by
        have h1 := hall e he hb
        have h0 := (mem_ready.1 hr).1
        rw [heq] at h1
        rcases Nat.lt_or_ge i listed.size with h' | h'
        · simp [h'] at h0 h1; rw [h0] at h1; cases h1
        · simp [Array.getElem?_eq_none h'] at h1
      have hjg : j ∉ gs := fun hg => by
        obtain ⟨e, he, hb, heq⟩ := waitAll_spec hwt hg hoj
        exact hnot e he hb heq
      have hn' : noneUp gs (listed.setIfInBounds j true) = true := by rw [noneUp_set hjg]; exact hn
      have hn2 : noneUp gs ((listed.setIfInBounds i true).setIfInBounds j true) = true := by rw [noneUp_set hjg, noneUp_set hig]; exact hn
      have h2 := wpOp_putIf hoj (hfree j oj hoj hji hjun hnot) (fun cs b => hsel i oi cs b hi) (fun cs b => hsel j oj cs b hoj) hQ hy h1
      have hfree' : ∀ k ok, ops[k]? = some ok → k ≠ i → (listed.setIfInBounds j true).getD k true = false →
          (∀ e ∈ ok.after, Region.binds md e = true → e.on ≠ i) → oi.apart ops ok = true := fun k ok hk hki hun hno => by
        refine hfree k ok hk hki ?_ hno
        by_cases hjk : j = k
        · subst hjk; exact hjun
        · rw [getD_set_ne true hjk] at hun; exact hun
      refine wpOp_mono (fun a' w' h3 => ⟨fun _ => h3.2.1 hn2, ih (listed.setIfInBounds j true) a' w' hfree' hn' (ready_mono hr (Ne.symm hji)) h3.1 (h3.2.1 hn2) ?_⟩) h2
      rw [Array.setIfInBounds_comm _ _ hji]
      exact h3.2.2
/-- What yields its value in whatever world may be taken first, whoever waits for it. -/
theorem wpAnyG_firstW {i : Nat} {oi : Oper} {v : Value} (hi : ops[i]? = some oi) (hsel : ∀ (j : Nat) (o : Oper) cs b, ops[j]? = some o → o.op ≠ .select cs b)
    (hQ : ∀ c a w, Q (.panic c) (a.put oi.dst v) w → Q (.panic c) a w) (hig : i ∉ gs) :
    ∀ (fuel : Nat) (listed : Array Bool) (a : Act) (w : World),
      (∀ j oj, ops[j]? = some oj → j ≠ i → listed.getD j true = false → (∀ e ∈ oj.after, Region.binds md e = true → e.on ≠ i) → oi.apart ops oj = true) →
      i ∈ Region.ready md ops listed → YieldsIf P ops (fun _ => True) oi v a → (noneUp gs listed = true → S w) →
      wpAnyG P md ops Q S gs fuel (listed.setIfInBounds i true) (a.put oi.dst v) w → wpAnyG P md ops Q S gs (fuel + 1) listed a w := by
  intro fuel
  induction fuel with
  | zero =>
    intro listed a w _ hr hy hS H
    refine ⟨fun h => (by rw [h] at hr; cases hr), fun j hj => ?_⟩
    by_cases hji : j = i
    · subst hji; exact hy.wpOp hi trivial ⟨fun h => hS (by rw [noneUp_set hig] at h; exact h), H⟩
    · have := ready_mono hj hji
      rw [H.1] at this
      cases this
  | succ fuel ih =>
    intro listed a w hfree hr hy hS H
    refine ⟨fun h => (by rw [h] at hr; cases hr), fun j hj => ?_⟩
    by_cases hji : j = i
    · subst hji; exact hy.wpOp hi trivial ⟨fun h => hS (by rw [noneUp_set hig] at h; exact h), H⟩
    · have h1 := H.2 j (ready_mono hj hji)
      obtain ⟨hjun, oj, hoj, hall⟩ := mem_ready.1 hj
      have hnot : ∀ e ∈ oj.after, Region.binds md e = true → e.on ≠ i := fun e he hb heq => by
        have h1 := hall e he hb
        have h0 := (mem_ready.1 hr).1
        rw [heq] at h1
        rcases Nat.lt_or_ge i listed.size with h' | h'
        · simp [h'] at h0 h1; rw [h0] at h1; cases h1
        · simp [Array.getElem?_eq_none h'] at h1
      have h2 := wpOp_putIf hoj (hfree j oj hoj hji hjun hnot) (fun cs b => hsel i oi cs b hi) (fun cs b => hsel j oj cs b hoj) hQ hy h1
      have hfree' : ∀ k ok, ops[k]? = some ok → k ≠ i → (listed.setIfInBounds j true).getD k true = false →
          (∀ e ∈ ok.after, Region.binds md e = true → e.on ≠ i) → oi.apart ops ok = true := fun k ok hk hki hun hno => by
        refine hfree k ok hk hki ?_ hno
        by_cases hjk : j = k
        · subst hjk; exact hjun
        · rw [getD_set_ne true hjk] at hun; exact hun
      have hsame : noneUp gs ((listed.setIfInBounds i true).setIfInBounds j true) = noneUp gs (listed.setIfInBounds j true) := by
        rw [Array.setIfInBounds_comm _ _ (Ne.symm hji), noneUp_set hig]
      refine wpOp_mono (fun a' w' h3 => ⟨fun h => h3.2.1 (by rw [hsame]; exact h), ih (listed.setIfInBounds j true) a' w' hfree' (ready_mono hr (Ne.symm hji)) h3.1 (fun h => h3.2.1 (by rw [hsame]; exact h)) ?_⟩) h2
      rw [Array.setIfInBounds_comm _ _ hji]
      exact h3.2.2
/-- Take number i first: it yields in whatever world. -/
theorem wpAnyG_takeW {i : Nat} {oi : Oper} {v : Value} {fuel : Nat} {listed : Array Bool} {a : Act} {w : World} (hi : ops[i]? = some oi)
    (hs : Region.noSelect ops = true) (hf : Region.free md ops listed i = true) (hr : (Region.ready md ops listed).contains i = true) (hg : (!gs.contains i) = true)
    (hQ : ∀ c a w, Q (.panic c) (a.put oi.dst v) w → Q (.panic c) a w) (hy : YieldsIf P ops (fun _ => True) oi v a) (hS : noneUp gs listed = true → S w)
    (h : wpAnyG P md ops Q S gs fuel (listed.setIfInBounds i true) (a.put oi.dst v) w) : wpAnyG P md ops Q S gs (fuel + 1) listed a w :=
  wpAnyG_firstW hi (Region.noSelect_spec hs) hQ (fun h => by rw [List.contains_iff_mem.2 h] at hg; exact absurd hg (by decide)) fuel listed a w (Region.free_spec hi hf) (by simpa using hr) hy hS h
/-- Take number i first. -/
theorem wpAnyG_take {i : Nat} {oi : Oper} {v : Value} {fuel : Nat} {listed : Array Bool} {a : Act} {w : World} (hi : ops[i]? = some oi)
    (hs : Region.noSelect ops = true) (hf : Region.free md ops listed i = true) (hr : (Region.ready md ops listed).contains i = true) (hg : (!gs.contains i && waitAll md ops gs i && noneUp gs listed) = true)
    (hQ : ∀ c a w, Q (.panic c) (a.put oi.dst v) w → Q (.panic c) a w) (hy : YieldsIf P ops S oi v a) (hS : S w)
    (h : wpAnyG P md ops Q S gs fuel (listed.setIfInBounds i true) (a.put oi.dst v) w) : wpAnyG P md ops Q S gs (fuel + 1) listed a w := by
  rw [Bool.and_eq_true, Bool.and_eq_true] at hg
  exact wpAnyG_first hi (Region.noSelect_spec hs) hQ (fun h => by rw [List.contains_iff_mem.2 h] at hg; exact absurd hg.1.1 (by decide)) hg.1.2 fuel listed a w (Region.free_spec hi hf) hg.2 (by simpa using hr) hy hS h
def AllReadyG (P : Program) (md : Region.Mode) (ops : Array Oper) (Q : Exit → Act → World → Prop) (S : World → Prop) (gs : List Nat) (fuel : Nat) (listed : Array Bool) (a : Act) (w : World) (rs : List Nat) : Prop :=
  ∀ i ∈ rs, wpOp P ops Q i (fun a' w' => (noneUp gs (listed.setIfInBounds i true) = true → S w') ∧ wpAnyG P md ops Q S gs fuel (listed.setIfInBounds i true) a' w') a w
theorem AllReadyG.nil {fuel : Nat} {listed : Array Bool} {a : Act} {w : World} : AllReadyG P md ops Q S gs fuel listed a w [] := fun _ h => by cases h
theorem AllReadyG.cons {fuel : Nat} {listed : Array Bool} {a : Act} {w : World} {i : Nat} {o : Oper} {rs : List Nat} (ho : ops[i]? = some o)
    (h : ∀ K' : Act → World → Prop, Shut (∀ a w, (noneUp gs (listed.setIfInBounds i true) = true → S w) → ((noneUp gs (listed.setIfInBounds i true) = true → S w) → wpAnyG P md ops Q S gs fuel (listed.setIfInBounds i true) a w) → K' a w) → if Region.wanted o (yielded ops a.tmps) = true then Oper.wp P o a w K' Q else K' (a.put o.dst undef) w)
    (hs : AllReadyG P md ops Q S gs fuel listed a w rs) : AllReadyG P md ops Q S gs fuel listed a w (i :: rs) := fun j hj => by
  rcases List.mem_cons.1 hj with rfl | hj
  · exact wpOp_step ho (fun K' hK => h K' (fun a w hS hW => hK a w ⟨hS, hW hS⟩))
  · exact hs j hj
theorem wpAnyG_ready {rs : List Nat} {fuel : Nat} {listed : Array Bool} {a : Act} {w : World} (hr : Region.ready md ops listed = rs) (hne : rs ≠ [])
    (h : AllReadyG P md ops Q S gs fuel listed a w rs) : wpAnyG P md ops Q S gs (fuel + 1) listed a w := ⟨fun h0 => absurd (hr ▸ h0) hne, hr ▸ h⟩
theorem wpAnyG_done {listed : Array Bool} {a : Act} {w : World} (hr : Region.ready md ops listed = []) (h : Q .normal a w) : ∀ fuel, wpAnyG P md ops Q S gs fuel listed a w
  | 0 => ⟨hr, h⟩
  | _ + 1 => ⟨fun _ => h, by rw [hr]; simp⟩
theorem wp_region_heldG {id : Nat} {a : Act} {w : World} (hm : P.follows .mixedOrders = true)
    (h : wpAnyG P .any ops Q S gs ops.size (Array.replicate ops.size false) a w.drew) : (Code.region id ops true).wp P Q a w :=
  wp_region_any hm (wpAny_of_G _ _ _ _ h)

/-! ### Straight on -/
end
end Go.Proofs.YthgefobcohlegaaGreatDoor
