/- One series of a block: (Block).End, (Block).one by contracts. -/
import Derived.Test.YthgefobcohlegaaGreatDoorMkiX
import Derived.Test.YthgefobcohlegaaGreatDoorMkjX
import Derived.Test.YthgefobcohlegaaGreatDoorMknX
import Derived.Deep.RegionHeld3
import Derived.Test.YthgefobcohlegaaGreatDoorMkgX
import Derived.Test.YthgefobcohlegaaGreatDoorChunkEncQX
namespace Go.Proofs.YthgefobcohlegaaGreatDoor
open Go.RowKit
set_option linter.unusedVariables false

/-- Does the series stand behind the one before it (false), or not? -/
def dupB (ser : List Bs) (i : Nat) : Bool := decide (0 < i) && leS (ser.getD i []) (ser.getD (i - 1) [])
def oneV (f : Nat × Int) (dup : Bool) (d : PRes) (fr en : Int) : PRes :=
  if f.1 ≠ 0 then .err (f.1 - 1) else if dup = true then .err 2 else
  match d with
  | .err c => .err c
  | .ok l => if l.length = 0 then .err 4 else if allIn fr en l = true then .ok l else .err 1
/-- What (Block).one answers. -/
def oneR (fr en : Int) (ser : List Bs) (ch : List (List Nat)) (i : Nat) : PRes := oneV (rdF (ser.getD i [])) (dupB ser i) (decR (ch.getD i [])) fr en
theorem decR_le {xs : List Nat} {l : List (Int × Int)} (h : decR xs = .ok l) : l.length ≤ 120 := by
  unfold decR at h
  split at h
  · cases h
  · split at h
    · cases h
    · split at h
      · cases h
      · rename_i l' hp
        split at h
        · injection h with h
          subst h
          exact (ptR_ok hp).1
        · cases h
theorem bend_any (fr sp en : Int) (A A' : Option Addr) (n c n' c' : Nat) (hE : en = fr + sp) (h1 : -9223372036854775808 ≤ fr + sp) (h2 : fr + sp < 9223372036854775808) (w : World) :
    Calls Tryz.prog 28 #[.agg #[.int .i64 fr, .int .i64 sp, .slice A n c, .slice A' n' c']] w fun e w' => e = .returned (.int .i64 en) ∧ Below w.heap.size w w' := by
  have Hb := Lib.hid (show Below w.heap.size w (w.alloc (.cells #[.int .i64 fr, .int .i64 sp, .slice A n c, .slice A' n' c'] 85)) from Below.alloc (Below.refl _ _) (Nat.le_refl _) _)
  have HE := Lib.hid hE
  clear hE
  go_enter Tryz.func28, Tryz.ntmps28
  go_wp2
  go_ret
  exact ⟨by rw [HE.out]; rfl, Hb.out⟩
set_option maxRecDepth 100000 in
set_option maxHeartbeats 4000000 in
theorem one_any {es : Nat → Addr} {B : Nat} (fr sp en : Int) (A A' : Option Addr) (n c c' : Nat) (ser : List Bs) (ch : List (List Nat)) (i : Nat) (w : World) (hS : SBk es B w) (hT : TabAt w) (hTB : 19 < B) (hB0 : B ≤ w.heap.size)
    (hA : Rd w w.heap.size 1 A n (ser.map fun s => .string (B8 s))) (hC : Rd w w.heap.size 1 A' n (ch.map fun x => .string (bytesOf x))) (hn : n ≤ 60) (hi : i < n)
    (hsl : ∀ s ∈ ser, s.length ≤ 100000) (hcl : ∀ x ∈ ch, x.length ≤ 100000 ∧ ∀ b ∈ x, b < 256) (hE : en = fr + sp) (hE1 : -9223372036854775808 ≤ fr + sp) (hE2 : fr + sp < 9223372036854775808) :
    Calls Tryz.prog 92 #[.agg #[.int .i64 fr, .int .i64 sp, .slice A n c, .slice A' n c'], .int .i64 (i : Int)] w fun e w' =>
      (∀ k, oneR fr en ser ch i = .err k → e = .returned (.tuple #[.slice none 0 0, sentV (es k)])) ∧
      (∀ l, oneR fr en ser ch i = .ok l → ∃ v, e = .returned (.tuple #[v, .nilIface]) ∧ w'.ownsRow w.heap.size 39 2 v l.length (ptsC l)) ∧ Below w.heap.size w w' := by
  obtain ⟨b0, o0, s, rfl, had0, hs, x0⟩ := hA.at1 hi
  obtain ⟨b1, o1, xs, rfl, had1, hx, y0⟩ := hC.at1 hi
  have hsl1 := hsl s (List.mem_of_getElem? hs)
  obtain ⟨hxl, hx256⟩ := hcl xs (List.mem_of_getElem? hx)
  clear hcl hsl
  -- the series before it
  obtain ⟨j, s', hj1, hj2, hj3, xj, hdup⟩ : ∃ (j : Nat) (s' : Bs), (0 < i → i ≤ j + 1) ∧ (0 < i → j + 1 ≤ i) ∧ j < n ∧ w.cell? ⟨b0, o0 + j, none⟩ = some (.string (B8 s')) ∧ dupB ser i = (decide (0 < i) && leS s s') := by
    have hj : i - 1 < n := by omega
    obtain ⟨b2, o2, s', e2, _, hs', x2⟩ := hA.at1 hj
    injection e2 with e2
    injection e2 with e2 e3
    subst e2; subst e3
    refine ⟨i - 1, s', fun h => by omega, fun h => by omega, hj, x2, ?_⟩
    unfold dupB
    rw [List.getD_eq_getElem?_getD, List.getD_eq_getElem?_getD, hs, hs']
    rfl
  have hone : oneR fr en ser ch i = oneV (rdF s) (decide (0 < i) && leS s s') (decR xs) fr en := by
    unfold oneR
    rw [hdup, List.getD_eq_getElem?_getD, hs, List.getD_eq_getElem?_getD, hx]
    rfl
  rw [hone]
  clear hone hdup hs hx hA hC
  have hb1 : Below w.heap.size w (w.alloc (.cells #[.int .i64 fr, .int .i64 sp, .slice (some ⟨b0, o0, none⟩) n c, .slice (some ⟨b1, o1, none⟩) n c'] 85)) := Below.alloc (Below.refl _ _) (Nat.le_refl _) _
  have hk1 := Blk.new w 85 #[.int .i64 fr, .int .i64 sp, .slice (some ⟨b0, o0, none⟩) n c, .slice (some ⟨b1, o1, none⟩) n c']
  have Hl := Lib.hid (fun W (hb : Below w.heap.size w W) => lread_u s hsl1 W (hS.below hb hB0).vl (Nat.le_trans hB0 hb.size))
  have Hd := Lib.hid (fun W (hb : Below w.heap.size w W) => decode_any xs W (hS.below hb hB0).v (hT.call hb (Nat.le_refl _)) hTB (Nat.le_trans hB0 hb.size) hx256 hxl)
  have Hbare := Lib.hid (fun C v c W (hb : Below w.heap.size w W) (hv : EV es C W v c) (hc : c.1 ≠ 0) => cbare_any v c W hv hc (hS.below hb hB0) (Nat.le_trans hB0 hb.size))
  have Hx := Lib.hid (fun W (hb : Below w.heap.size w W) => show W.cell? ⟨b0, o0 + i, none⟩ = some (.string (B8 s)) ∧ W.cell? ⟨b0, o0 + j, none⟩ = some (.string (B8 s')) ∧ W.cell? ⟨b1, o1 + i, none⟩ = some (.string (bytesOf xs)) from
    ⟨(hb.cell (p := ⟨b0, o0 + i, none⟩) had0).trans x0, (hb.cell (p := ⟨b0, o0 + j, none⟩) had0).trans xj, (hb.cell (p := ⟨b1, o1 + i, none⟩) had1).trans y0⟩)
  have Hg := Lib.hid (fun W (hb : Below w.heap.size w W) => show W.cell? ⟨0, 0, none⟩ = some (sentV (es 1)) ∧ W.cell? ⟨3, 0, none⟩ = some (sentV (es 2)) ∧ W.cell? ⟨7, 0, none⟩ = some (sentV (es 4)) from
    ⟨(hS.below hb hB0).var 1 (by decide), (hS.below hb hB0).var 2 (by decide), (hS.below hb hB0).var 4 (by decide)⟩)
  have Hend := Lib.hid (fun W => bend_any fr sp en (some ⟨b0, o0, none⟩) (some ⟨b1, o1, none⟩) n c n c' hE hE1 hE2 W)
  have HB1 := Lib.hid hb1; have HK1 := Lib.hid hk1
  have hin : (i : Int) < n := by omega
  clear x0 xj y0 hsl1 hx256 hxl hS hT hTB hb1 hk1 hE hE1 hE2 hB0
  obtain ⟨x0, xj, y0⟩ := Hx.out _ HB1.out
  have q2 := HK1.out.cell 2
  have hcmp : (Op.bytesLess (B8 s).toList (B8 s').toList || (B8 s).toList == (B8 s').toList) = leS s s' := by rw [B8_toList, B8_toList]; rfl
  have Hcmp := Lib.hid hcmp
  clear hcmp
  obtain ⟨fc, hfc⟩ : ∃ fc, rdF s = fc := ⟨_, rfl⟩
  rw [hfc] at Hl ⊢
  clear hfc
  go_enter Tryz.func92, Tryz.ntmps92
  go_wp2_with fail
  refine (Hl.out _ HB1.out).mono ?_
  rintro e w2 ⟨v, u, l, rfl, hev, hown, _, _, hb2⟩
  obtain ⟨Au, cu, rfl, _, _, _⟩ := own_form hown
  have HB2 := Lib.hid (Below.call HB1.out hb2 HB1.out.size)
  have HK2 := Lib.hid (HK1.out.below hb2 HK1.out.lt)
  obtain ⟨x0, xj, y0⟩ := Hx.out _ HB2.out
  obtain ⟨e1, e2, e4⟩ := Hg.out _ HB2.out
  have q0 := HK2.out.cell 0
  have q1 := HK2.out.cell 1
  have q2 := HK2.out.cell 2
  have q3 := HK2.out.cell 3
  have Hev := Lib.hid hev
  clear hown hb2
  by_cases hc0 : fc.1 = 0
  case neg =>
    obtain ⟨t, p, rfl⟩ := hev.pos hc0
    have Hbb := Lib.hid (Hbare.out _ _ _ _ HB2.out Hev.out hc0)
    have Hone := Lib.hid (show oneV fc (decide (0 < i) && leS s s') (decR xs) fr en = .err (fc.1 - 1) from if_pos hc0)
    clear hev hc0
    go_wp2_with fail
    refine Hbb.out.mono ?_
    rintro e w3 ⟨rfl, hb3⟩
    have HB3 := Lib.hid (Below.call HB2.out hb3 HB2.out.size)
    clear hb3
    go_wp2
    go_ret2
    exact ⟨fun k h => (by rw [Hone.out] at h; injection h with h; subst h; rfl), fun l h => (by rw [Hone.out] at h; cases h), HB3.out⟩
  obtain rfl := hev.zero hc0
  clear hev
  by_cases hdu : (decide (0 < i) && leS s s') = true
  · have Hone := Lib.hid (show oneV fc (decide (0 < i) && leS s s') (decR xs) fr en = .err 2 by unfold oneV; rw [if_neg (by simpa using hc0), if_pos hdu])
    have hi0 : 0 < i := by rw [Bool.and_eq_true, decide_eq_true_eq] at hdu; exact hdu.1
    have hle := Hcmp.out
    rw [show leS s s' = true by rw [Bool.and_eq_true] at hdu; exact hdu.2] at hle
    have hi0' : (0 : Int) < i := by omega
    have hd0 : decide ((0 : Int) < i) = true := decide_eq_true hi0'
    have hw : IntKind.i64.wrap ((i : Int) - 1) = (j : Int) := by rw [IntKind.wrap_i64]; have := hj1 hi0; have := hj2 hi0; omega
    have hjn : (j : Int) < n := by omega
    clear hdu hj1 hj2 hc0
    go_wp2
    go_quiet (fail)
    go_wp2
    go_quiet (fail)
    go_wp2
    go_ret2
    exact ⟨fun k h => (by rw [Hone.out] at h; injection h with h; subst h; rfl), fun l h => (by rw [Hone.out] at h; cases h), by first | exact HB2.out | exact Below.drewN HB2.out _ | exact Below.drewN (Below.drewN HB2.out _) _⟩
  have Hdu := Lib.hid (show (decide (0 < i) && leS s s') = false by simpa using hdu)
  have hov : oneV fc (decide (0 < i) && leS s s') (decR xs) fr en = match decR xs with
      | .err c => .err c
      | .ok l => if l.length = 0 then .err 4 else if allIn fr en l = true then .ok l else .err 1 := by
    unfold oneV; rw [if_neg (by simpa using hc0), if_neg hdu]
  clear hdu hc0
  have Hov := Lib.hid hov
  clear hov
  have hw : 0 < i → IntKind.i64.wrap ((i : Int) - 1) = (j : Int) := fun h => by rw [IntKind.wrap_i64]; have := hj1 h; have := hj2 h; omega
  have hjn : (j : Int) < n := by omega
  clear hj1 hj2
  rcases Nat.eq_zero_or_pos i with h0 | h0
  case' inl =>
    have hd0 : decide ((0 : Int) < i) = false := decide_eq_false (by omega)
    have hd1 : decide (0 < i) = false := decide_eq_false (by omega)
    clear hw h0
    go_wp2
    go_quiet (fail)
  case' inr =>
    have hd0 : decide ((0 : Int) < i) = true := decide_eq_true (by omega)
    have hd1 : decide (0 < i) = true := decide_eq_true h0
    have hle := Hcmp.out
    rw [show leS s s' = false by have := Hdu.out; rw [decide_eq_true h0, Bool.true_and] at this; exact this] at hle
    replace hw := hw h0
    clear h0
    go_wp2
    go_quiet (fail)
    clear hle hw
  all_goals
    have HB3 := Lib.hid (show Below w.heap.size w (w2.drewN nq) from Below.drewN HB2.out nq)
    have HK3 := Lib.hid (HK2.out.drewN nq)
    clear x0 xj y0 e1 e2 e4 q0 q1 q2 q3 hd0 hd1
    generalize w2.drewN nq = w3 at HB3 HK3 ⊢
    obtain ⟨x0, xj, y0⟩ := Hx.out _ HB3.out
    have q3 := HK3.out.cell 3
    rcases hdx : decR xs with k | ps
    · have Hone := Lib.hid (show oneV fc (decide (0 < i) && leS s s') (decR xs) fr en = .err k by rw [Hov.out, hdx])
      have Hdx := Lib.hid hdx
      clear hdx
      go_wp2_with fail
      refine (Hd.out _ HB3.out).mono ?_
      rintro e w4 ⟨g1, _, hb4⟩
      obtain rfl := g1 k Hdx.out
      have HB4 := Lib.hid (Below.call HB3.out hb4 HB3.out.size)
      clear hb4 g1
      go_wp2
      go_ret2
      exact ⟨fun k h => (by rw [Hone.out] at h; injection h with h; subst h; rfl), fun l h => (by rw [Hone.out] at h; cases h), HB4.out⟩
    · have Hone := Lib.hid (show oneV fc (decide (0 < i) && leS s s') (decR xs) fr en = if ps.length = 0 then .err 4 else if allIn fr en ps = true then .ok ps else .err 1 by rw [Hov.out, hdx])
      have Hdx := Lib.hid hdx
      have hm := decR_le hdx
      clear hdx
      go_wp2_with fail
      refine (Hd.out _ HB3.out).mono ?_
      rintro e w4 ⟨_, g1, hb4⟩
      obtain ⟨v, rfl, hown⟩ := g1 ps Hdx.out
      obtain ⟨Ap, cp, rfl, hp1, hp2, hrp⟩ := own_form hown
      have HB4 := Lib.hid (Below.call HB3.out hb4 HB3.out.size)
      have HK4 := Lib.hid (HK3.out.below hb4 HK3.out.lt)
      have Hown := Lib.hid (own_base hown HB3.out.size)
      have Hw := Lib.hid (fun W (hb : Below w4.drew.heap.size w4.drew W) => within_any Ap ps.length cp ps fr en W ((Rd.below (w := w4.drew) hrp.drew hb).more hb.size) (by omega))
      have HBd := Lib.hid (show Below w.heap.size w w4.drew from HB4.out.drew)
      have HKd := Lib.hid (HK4.out.drew)
      have HOd := Lib.hid (own_drew Hown.out)
      obtain ⟨m, hm0⟩ : ∃ m, m = ps.length := ⟨_, rfl⟩
      obtain ⟨_, _, e4⟩ := Hg.out _ HB4.out
      clear hb4 g1 hown hrp
      by_cases hmz : m = 0
      · have hmb : ((m : Int) == 0) = true := by rw [beq_iff_eq]; omega
        have Hno := Lib.hid (show oneV fc (decide (0 < i) && leS s s') (decR xs) fr en = .err 4 by rw [Hone.out, if_pos (hm0.symm.trans hmz)])
        rw [← hm0]
        clear hmz hm0
        go_wp2
        go_quiet (fail)
        go_wp2
        go_ret2
        exact ⟨fun k h => (by rw [Hno.out] at h; injection h with h; subst h; rfl), fun l h => (by rw [Hno.out] at h; cases h), by first | exact HB4.out | exact Below.drewN HB4.out _ | exact Below.drewN (Below.drewN HB4.out _) _⟩
      · have hmb : ((m : Int) == 0) = false := by rw [beq_eq_false_iff_ne]; omega
        have Hno := Lib.hid (show oneV fc (decide (0 < i) && leS s s') (decR xs) fr en = if allIn fr en ps = true then .ok ps else .err 1 by rw [Hone.out, if_neg (by rw [← hm0]; exact hmz)])
        have Hm0 := Lib.hid hm0
        rw [← hm0] at Hw ⊢
        clear hmz hm0
        obtain ⟨ai, hai⟩ : ∃ ai, allIn fr en ps = ai := ⟨_, rfl⟩
        rw [hai] at Hw
        have Hai := Lib.hid hai
        clear hai
        have Hkc := Lib.hid (fun W (h : Blk W w.heap.size 85 #[.int .i64 fr, .int .i64 sp, .slice (some ⟨b0, o0, none⟩) n c, .slice (some ⟨b1, o1, none⟩) n c']) => show W.cell? ⟨w.heap.size, 0, none⟩ = some (.int .i64 fr) ∧ W.cell? ⟨w.heap.size, 1, none⟩ = some (.int .i64 sp) ∧ W.cell? ⟨w.heap.size, 2, none⟩ = some (.slice (some ⟨b0, o0, none⟩) n c) ∧ W.cell? ⟨w.heap.size, 3, none⟩ = some (.slice (some ⟨b1, o1, none⟩) n c') from ⟨h.cell 0, h.cell 1, h.cell 2, h.cell 3⟩)
        go_wp2
        go_region_held3 (fun w' => w'.cell? ⟨w.heap.size, 0, none⟩ = some (.int .i64 fr) ∧ w'.cell? ⟨w.heap.size, 1, none⟩ = some (.int .i64 sp) ∧ w'.cell? ⟨w.heap.size, 2, none⟩ = some (.slice (some ⟨b0, o0, none⟩) n c) ∧ w'.cell? ⟨w.heap.size, 3, none⟩ = some (.slice (some ⟨b1, o1, none⟩) n c'))
          (first | with_reducible exact Hkc.out _ HKd.out | with_reducible exact Hkc.out _ HK5.out | with_reducible exact Hkc.out _ HK6.out)
          (first | (go_at_call 28; refine (Hend.out _).mono ?_; rintro e w5 ⟨rfl, hb⟩; have HB5 := Lib.hid hb; have HK5 := Lib.hid (HKd.out.below hb HKd.out.lt); clear hb) | (go_at_call 121; refine (Hw.out _ HB5.out).mono ?_; rintro e w6 ⟨rfl, hb⟩; have HB6 := Lib.hid (Below.call HB5.out hb HB5.out.size); have HK6 := Lib.hid (HK5.out.below hb HK5.out.lt); clear hb))
        all_goals
          have HBe := Lib.hid (Below.call HBd.out HB6.out HBd.out.size)
          have HOe := Lib.hid (own_below HOd.out HB6.out (Nat.le_refl _))
          obtain ⟨e1, _, _⟩ := Hg.out _ HBe.out
          cases ai
          · have Hre := Lib.hid (show oneV fc (decide (0 < i) && leS s s') (decR xs) fr en = .err 1 by rw [Hno.out, Hai.out]; rfl)
            go_wp2
            go_quiet (fail)
            go_wp2
            go_ret2
            exact ⟨fun k h => (by rw [Hre.out] at h; injection h with h; subst h; rfl), fun l h => (by rw [Hre.out] at h; cases h), by first | exact HBe.out | exact Below.drewN HBe.out _ | exact Below.drewN (Below.drewN HBe.out _) _⟩
          · have Hre := Lib.hid (show oneV fc (decide (0 < i) && leS s s') (decR xs) fr en = .ok ps by rw [Hno.out, Hai.out]; rfl)
            go_wp2
            go_ret2
            exact ⟨fun k h => (by rw [Hre.out] at h; cases h), fun l h => (by rw [Hre.out] at h; injection h with h; subst h; exact ⟨_, by rw [Hm0.out]; rfl, by first | exact HOe.out | exact own_drewN HOe.out _⟩), by first | exact HBe.out | exact Below.drewN HBe.out _ | exact Below.drewN (Below.drewN HBe.out _) _⟩
end Go.Proofs.YthgefobcohlegaaGreatDoor

namespace Go.Proofs.YthgefobcohlegaaGreatDoor
open Go.RowKit
set_option linter.unusedVariables false

/-- What LabelsOf answers. -/
def OPost (s : Bs) (w : World) (e : Ending) (w' : World) : Prop :=
  ∃ u l, e = .returned (.tuple #[u, fV (rdF s)]) ∧ w'.ownsRow w.heap.size 90 2 u l.length (lbC l) ∧ ((rdF s).1 = 0 → parseL s = some l) ∧ ((rdF s).1 ≠ 0 → l = []) ∧ Below w.heap.size w w'
theorem OPost.done {s : Bs} {w w' : World} {e : Ending} {l : List Lb} {u : Value} {c : Nat × Int} (h : parseL s = some l) (hc : c = lbF l) (h0 : c.1 = 0) (he : e = .returned (.tuple #[u, fV c])) (ho : w'.ownsRow w.heap.size 90 2 u l.length (lbC l)) (hb : Below w.heap.size w w') : OPost s w e w' := by
  have e1 := rdF_some h
  refine ⟨_, l, by rw [e1, ← hc]; exact he, ho, fun _ => h, fun h => ?_, hb⟩
  rw [e1, ← hc, h0] at h; exact absurd rfl h
theorem OPost.bad {s : Bs} {w w' : World} {e : Ending} {l : List Lb} {c : Nat × Int} (h : parseL s = some l) (hc : c = lbF l) (h0 : c.1 ≠ 0) (he : e = .returned (.tuple #[.slice none 0 0, fV c])) (hb : Below w.heap.size w w') : OPost s w e w' := by
  have e1 := rdF_some h
  refine ⟨_, [], by rw [e1, ← hc]; exact he, World.ownsRow_nil _ _ _ _, fun h => ?_, fun _ => rfl, hb⟩
  rw [e1, ← hc] at h; exact absurd h h0
theorem rd_new2 (W : World) (t : TypeId) (u0 u1 : Value) : Rd (W.alloc (.cells #[u0, u1] t)) (W.alloc (.cells #[u0, u1] t)).heap.size 2 (some ⟨W.heap.size, 0, none⟩) 1 [u0, u1] := by
  refine ⟨rfl, fun _ => ⟨W.heap.size, 0, rfl, by simp, fun j u hu => ?_⟩⟩
  rw [Nat.zero_add, (Blk.new W t #[u0, u1]).cell j]
  simpa using hu
end Go.Proofs.YthgefobcohlegaaGreatDoor

namespace Go.Proofs.YthgefobcohlegaaGreatDoor
open Go.RowKit
set_option linter.unusedVariables false

/-- A row, with the value that holds its points. -/
structure RowV where
  nm : Bs
  pts : List (Int × Int)
  v : Value
def rowC (l : List RowV) : List Value := l.flatMap fun r => [.string (B8 r.nm), r.v]
theorem rowC_snoc (l : List RowV) (r : RowV) : rowC (l ++ [r]) = rowC l ++ [.string (B8 r.nm), r.v] := by unfold rowC; rw [List.flatMap_append]; simp
def RowsOwn (base : Nat) (w : World) (l : List RowV) : Prop := ∀ r ∈ l, w.ownsRow base 39 2 r.v r.pts.length (ptsC r.pts)
theorem RowsOwn.below {base C : Nat} {w w' : World} {l : List RowV} (h : RowsOwn base w l) (hb : Below C w w') (hC : w.heap.size ≤ C) : RowsOwn base w' l := fun r hr => own_below (h r hr) hb hC
theorem RowsOwn.nil (base : Nat) (w : World) : RowsOwn base w [] := fun r hr => (by cases hr)
theorem RowsOwn.snoc {base : Nat} {w : World} {l : List RowV} {r : RowV} (h : RowsOwn base w l) (hr : w.ownsRow base 39 2 r.v r.pts.length (ptsC r.pts)) : RowsOwn base w (l ++ [r]) := fun x hx => by
  rcases List.mem_append.1 hx with hx | hx
  · exact h x hx
  · obtain rfl := List.mem_singleton.1 hx
    exact hr
theorem RowsOwn.after {base base' : Nat} {w wa : World} {l : List RowV} {v' : Value} {n' : Nat} {xs' : List Value} (h : RowsOwn base w l) (h' : w.ownsRow base' 58 2 v' n' xs') (hg : w.grownBy wa v'.ownBlock) : RowsOwn base wa l :=
  fun r hr => own_after (h r hr) h' (by decide) hg

def okL : PRes → List (Int × Int) | .ok l => l | .err _ => []
/-- The first of n that is wrong: its error and its place. -/
def firstBad (g : Nat → PRes) : Nat → Option (Nat × Nat)
  | 0 => none
  | n + 1 => match firstBad g n with
    | some x => some x
    | none => match g n with
      | .err c => some (c, n)
      | .ok _ => none
theorem firstBad_ok {g : Nat → PRes} {n : Nat} {l : List (Int × Int)} (h : firstBad g n = none) (h2 : g n = .ok l) : firstBad g (n + 1) = none := by
  unfold firstBad; rw [h, h2]
theorem firstBad_err {g : Nat → PRes} {n c : Nat} (h : firstBad g n = none) (h2 : g n = .err c) : ∀ m, n < m → firstBad g m = some (c, n) := by
  intro m
  induction m with
  | zero => intro h3; omega
  | succ m ih =>
    intro h3
    rcases Nat.lt_or_ge n m with h4 | h4
    · unfold firstBad; rw [ih h4]
    · obtain rfl : n = m := by omega
      unfold firstBad; rw [h, h2]
/-- What (Block).rows answers: number and place of what is wrong; names and points. -/
def rowsR (fr sp : Int) (ser : List Bs) (ch : List (List Nat)) : (Nat × Int) × List (Bs × List (Int × Int)) :=
  if bndB fr sp = false then ((2, -1), []) else if 60 < ser.length then ((2, -1), []) else if ch.length ≠ ser.length then ((3, -1), []) else
  match firstBad (oneR fr (fr + sp) ser ch) ser.length with
  | some (c, i) => ((c + 1, (i : Int)), [])
  | none => ((0, -1), (List.range ser.length).map fun i => (ser.getD i [], okL (oneR fr (fr + sp) ser ch i)))
theorem infoRow : (Tryz.prog.info? 58).map (fun i => (i.zero, i.size, i.bytes)) = some (some (.agg #[.string ⟨#[]⟩, .slice none 0 0]), 2, 40) := by kernel_rfl
theorem row_one (nm : Bs) (A : Option Addr) (n c : Nat) : ∀ u ∈ [Value.string (B8 nm), Value.slice A n c], u.oneCell' = true := by
  intro u hu; simp at hu; rcases hu with rfl | rfl <;> rfl
theorem rdF_le (s : Bs) : (rdF s).1 ≤ 5 := by
  cases hp : parseL s with
  | none => rw [rdF_none hp]; decide
  | some l =>
    rw [rdF_some hp]
    rcases lbF_cases l with ⟨_, e⟩ | ⟨_, e⟩ | ⟨i, _, _, _, _, _, e⟩ | ⟨_, _, _, e⟩
    · rw [e]; decide
    · rw [e]; decide
    · rw [e]; have := lbCode_lt l i; simp only; omega
    · rw [e]; decide
theorem decR_code2 {xs : List Nat} {c : Nat} (h : decR xs = .err c) : c = 0 ∨ c = 8 := by
  unfold decR at h
  split at h
  · injection h with h; exact .inl h.symm
  split at h
  · injection h with h; exact .inr h.symm
  split at h
  · injection h with h; exact .inl h.symm
  · split at h
    · cases h
    · injection h with h; exact .inl h.symm
theorem oneR_code {fr en : Int} {ser : List Bs} {ch : List (List Nat)} {i c : Nat} (h : oneR fr en ser ch i = .err c) : c < 11 := by
  unfold oneR oneV at h
  split at h
  · injection h with h
    have := rdF_le (ser.getD i [])
    omega
  split at h
  · injection h with h; omega
  split at h
  · rename_i k hk
    injection h with h
    rcases decR_code2 hk with h2 | h2 <;> omega
  · split at h
    · injection h with h; omega
    split at h
    · cases h
    · injection h with h; omega
end Go.Proofs.YthgefobcohlegaaGreatDoor

namespace Go.Proofs.YthgefobcohlegaaGreatDoor
open Go.RowKit
set_option linter.unusedVariables false

/-- rows' answer: nothing and what is wrong; or rows of its own. -/
def RowsPost (es : Nat → Addr) (R : (Nat × Int) × List (Bs × List (Int × Int))) (w : World) (e : Ending) (w' : World) : Prop :=
  ∃ v u ls, e = .returned (.tuple #[u, v]) ∧ EV es w.heap.size w' v R.1 ∧ w'.ownsRow w.heap.size 58 2 u ls.length (rowC ls) ∧ RowsOwn w.heap.size w' ls ∧ ls.map (fun r => (r.nm, r.pts)) = R.2 ∧ (R.1.1 ≠ 0 → u = .slice none 0 0) ∧ Below w.heap.size w w'
theorem RowsPost.sent {es : Nat → Addr} {w w' : World} {e : Ending} {k : Nat} (hk : k < 11) (he : e = .returned (.tuple #[.slice none 0 0, sentV (es k)])) (hb : Below w.heap.size w w') : RowsPost es ((k + 1, -1), []) w e w' :=
  ⟨_, _, [], he, .inr (.inl ⟨k, hk, rfl, rfl⟩), World.ownsRow_nil _ _ _ _, RowsOwn.nil _ _, rfl, fun _ => rfl, hb⟩
set_option maxRecDepth 100000 in
set_option maxHeartbeats 4000000 in
theorem rows_any {es : Nat → Addr} {B : Nat} (fr sp : Int) (A A' : Option Addr) (n c n' c' : Nat) (ser : List Bs) (ch : List (List Nat)) (w : World) (hS : SBk es B w) (hT : TabAt w) (hTB : 19 < B) (hB0 : B ≤ w.heap.size)
    (hA : Rd w w.heap.size 1 A n (ser.map fun s => .string (B8 s))) (hC : Rd w w.heap.size 1 A' n' (ch.map fun x => .string (bytesOf x))) (hsl : ∀ s ∈ ser, s.length ≤ 100000) (hcl : ∀ x ∈ ch, x.length ≤ 100000 ∧ ∀ b ∈ x, b < 256) :
    Calls Tryz.prog 67 #[.agg #[.int .i64 fr, .int .i64 sp, .slice A n c, .slice A' n' c']] w fun e w' => RowsPost es (rowsR fr sp ser ch) w e w' := by
  have hln : ser.length = n := by have := hA.1; simpa using this
  have hlc : ch.length = n' := by have := hC.1; simpa using this
  have hb1 : Below w.heap.size w (w.alloc (.cells #[.int .i64 fr, .int .i64 sp, .slice A n c, .slice A' n' c'] 85)) := Below.alloc (Below.refl _ _) (Nat.le_refl _) _
  have hk1 := Blk.new w 85 #[.int .i64 fr, .int .i64 sp, .slice A n c, .slice A' n' c']
  have Hg := Lib.hid (fun W (hb : Below w.heap.size w W) => show W.cell? ⟨0, 0, none⟩ = some (sentV (es 1)) ∧ W.cell? ⟨3, 0, none⟩ = some (sentV (es 2)) from
    ⟨(hS.below hb hB0).var 1 (by decide), (hS.below hb hB0).var 2 (by decide)⟩)
  have Hbd := Lib.hid (fun W (hb : Below w.heap.size w W) => bounds_any fr sp W (hS.below hb hB0).vl)
  have Hone := Lib.hid (fun W (hb : Below w.heap.size w W) (hn : n ≤ 60) (hnn : n' = n) (i : Nat) (hi : i < n) (h1 : -9223372036854775808 ≤ fr + sp) (h2 : fr + sp < 9223372036854775808) =>
    one_any fr sp (fr + sp) A A' n c c' ser ch i W (hS.below hb hB0) (hT.call hb (Nat.le_refl _)) hTB (Nat.le_trans hB0 hb.size) ((hA.below hb).more hb.size) (by rw [← hnn]; exact (hC.below hb).more hb.size) hn hi hsl hcl rfl h1 h2)
  have Hat := Lib.hid (fun W (hb : Below w.heap.size w W) (i : Nat) (hi : i < n) => (hA.below hb).at1 hi)
  have HB1 := Lib.hid hb1; have HK1 := Lib.hid hk1; have Hln := Lib.hid hln; have Hlc := Lib.hid hlc
  clear hb1 hk1 hS hT hTB hA hC hsl hcl hB0 hln hlc
  have q0 := HK1.out.cell 0
  have q1 := HK1.out.cell 1
  have q2 := HK1.out.cell 2
  have q3 := HK1.out.cell 3
  obtain ⟨e1, e2⟩ := Hg.out _ HB1.out
  by_cases hbd : bndB fr sp = true
  case neg =>
    have hbf : bndB fr sp = false := by simpa using hbd
    have Hr := Lib.hid (show rowsR fr sp ser ch = ((2, -1), []) by unfold rowsR; rw [if_pos hbf])
    rw [Hr.out]
    have Hbf := Lib.hid hbf
    clear hbd hbf
    go_enter Tryz.func67, Tryz.ntmps67
    go_wp2_with fail
    refine (Hbd.out _ HB1.out).mono ?_
    rintro e w2 ⟨_, g2, rfl⟩
    obtain rfl := g2 Hbf.out
    clear g2
    go_wp2
    go_ret2
    exact RowsPost.sent (by decide) rfl HB1.out
  have hbs : 1 ≤ sp ∧ sp ≤ 100000 ∧ -1099511627776 ≤ fr ∧ fr ≤ 1099511627776 := by simpa [bndB] using hbd
  have Hbt := Lib.hid hbd
  clear hbd
  by_cases hn60 : 60 < n
  · have hn60' : (60 : Int) < n := by omega
    have Hr := Lib.hid (show rowsR fr sp ser ch = ((2, -1), []) by unfold rowsR; rw [if_neg (by rw [Hbt.out]; decide), if_pos (by rw [Hln.out]; exact hn60)])
    rw [Hr.out]
    clear hbs hn60
    go_enter Tryz.func67, Tryz.ntmps67
    go_wp2_with fail
    refine (Hbd.out _ HB1.out).mono ?_
    rintro e w2 ⟨g2, _, rfl⟩
    obtain rfl := g2 Hbt.out
    clear g2
    go_wp2
    go_quiet (fail)
    go_wp2
    go_ret2
    exact RowsPost.sent (by decide) rfl (by first | exact HB1.out | exact Below.drewN HB1.out _ | exact Below.drewN (Below.drewN HB1.out _) _)
  have hn60' : ¬ (60 : Int) < n := by omega
  by_cases hnn : n' = n
  case neg =>
    have hnn' : ((n' : Int) == (n : Int)) = false := by rw [beq_eq_false_iff_ne]; omega
    have Hr := Lib.hid (show rowsR fr sp ser ch = ((3, -1), []) by unfold rowsR; rw [if_neg (by rw [Hbt.out]; decide), if_neg (by rw [Hln.out]; exact hn60), if_pos (by rw [Hln.out, Hlc.out]; exact hnn)])
    rw [Hr.out]
    clear hbs hn60 hnn
    go_enter Tryz.func67, Tryz.ntmps67
    go_wp2_with fail
    refine (Hbd.out _ HB1.out).mono ?_
    rintro e w2 ⟨g2, _, rfl⟩
    obtain rfl := g2 Hbt.out
    clear g2
    go_wp2
    go_quiet (fail)
    go_wp2
    go_ret2
    exact RowsPost.sent (by decide) rfl (by first | exact HB1.out | exact Below.drewN HB1.out _ | exact Below.drewN (Below.drewN HB1.out _) _)
  have hfs1 : -9223372036854775808 ≤ fr + sp := by omega
  have hfs2 : fr + sp < 9223372036854775808 := by omega
  have hn1 : n ≤ 60 := by omega
  have Hon := Lib.hid (fun W hb i hi => Hone.out W hb hn1 hnn i hi hfs1 hfs2)
  have Hr := Lib.hid (show rowsR fr sp ser ch = match firstBad (oneR fr (fr + sp) ser ch) n with
      | some (c, i) => ((c + 1, (i : Int)), [])
      | none => ((0, -1), (List.range n).map fun i => (ser.getD i [], okL (oneR fr (fr + sp) ser ch i))) by
    unfold rowsR; rw [if_neg (by rw [Hbt.out]; decide), if_neg (by rw [Hln.out]; exact hn60), if_neg (by rw [Hln.out, Hlc.out]; simpa using hnn), Hln.out]; try rfl)
  have hnn2 := hnn.symm
  subst hnn2
  clear hnn
  obtain ⟨i0, hi, hz0, hz1, hz2⟩ := info_parts infoRow
  have Hi := Lib.hid hi; have Hz0 := Lib.hid hz0; have Hz1 := Lib.hid hz1; have Hz2 := Lib.hid hz2
  clear hi hz0 hz1 hz2 hbs hn60 hfs1 hfs2
  generalize hoo : oneR fr (fr + sp) ser ch = R at Hon Hr ⊢
  have HRc := Lib.hid (show ∀ i c, R i = .err c → c < 11 from fun i c h => oneR_code (by rw [hoo]; exact h))
  clear hoo
  go_enter Tryz.func67, Tryz.ntmps67
  go_wp2_with fail
  refine (Hbd.out _ HB1.out).mono ?_
  rintro e w2 ⟨g2, _, rfl⟩
  obtain rfl := g2 Hbt.out
  clear g2
  go_wp2
  generalize hwx : w.alloc (.cells #[.int .i64 fr, .int .i64 sp, .slice A n c, .slice A' n c'] 85) = wx at HB1 HK1 ⊢
  go_loopw [5, 34] (fun ov kv wr => ∃ (k : Nat) (ls : List RowV), k ≤ n ∧ kv = .int .i64 k ∧ wr.ownsRow w.heap.size 58 2 ov k (rowC ls) ∧ ls.length = k ∧ RowsOwn w.heap.size wr ls ∧ firstBad R k = none ∧ ls.map (fun r => (r.nm, r.pts)) = ((List.range k).map fun i => (ser.getD i [], okL (R i))) ∧ Below w.heap.size w wr ∧ Blk wr w.heap.size 85 #[.int .i64 fr, .int .i64 sp, .slice A n c, .slice A' n c']) (fun _ kv _ => n - (intOf kv).toNat)
  case atStart => exact ⟨0, [], Nat.zero_le _, rfl, World.ownsRow_nil _ _ _ _, rfl, RowsOwn.nil _ _, rfl, rfl, HB1.out, HK1.out⟩
  case round =>
    obtain ⟨k, ls, hk, rfl, hown, hll, hro, hfb, hmap, hb, hkb⟩ := hrel
    obtain ⟨Ao, co, rfl, _, _, _⟩ := own_form hown
    have Hown := Lib.hid hown; have Hro := Lib.hid hro; have Hfb := Lib.hid hfb; have Hmap := Lib.hid hmap; have HB := Lib.hid hb; have HK := Lib.hid hkb; have Hll := Lib.hid hll
    have q0 := hkb.cell 0
    have q1 := hkb.cell 1
    have q2 := hkb.cell 2
    have q3 := hkb.cell 3
    clear hown hro hfb hmap hb hkb hll
    by_cases hkn : k < n
    · have hkn' : (k : Int) < n := by omega
      obtain ⟨b0, o0, s, hA0, had0, hs, x0⟩ := Hat.out _ HB.out k hkn
      subst hA0
      have Hsg := Lib.hid (show ser.getD k [] = s by rw [List.getD_eq_getElem?_getD, hs]; rfl)
      have Hok := Lib.hid (Hon.out _ HB.out k hkn)
      clear hs
      rcases hR : R k with cd | ps
      · have Hfin := Lib.hid (firstBad_err Hfb.out hR n hkn)
        have HR := Lib.hid hR
        clear hR
        go_wp2_with fail
        refine Hok.out.mono ?_
        rintro e w3 ⟨g1, _, hb3⟩
        obtain rfl := g1 cd HR.out
        have HB3 := Lib.hid (Below.call HB.out hb3 HB.out.size)
        clear hb3 g1
        go_wp2
        go_ret2
        rw [Hr.out, Hfin.out]
        have hq := Blk.new w3 148 #[.int .i64 (k : Int), sentV (es cd)]
        exact ⟨_, _, [], rfl, .inr (.inr ⟨cd, w3.heap.size, k, HRc.out _ _ HR.out, rfl, rfl, HB3.out.size, hq.lt, hq.cell 0, hq.cell 1⟩), World.ownsRow_nil _ _ _ _, RowsOwn.nil _ _, rfl, fun _ => rfl, Below.alloc HB3.out HB3.out.size _⟩
      · have Hfn := Lib.hid (firstBad_ok Hfb.out hR)
        have HR := Lib.hid hR
        clear hR
        go_wp2_with fail
        refine Hok.out.mono ?_
        rintro e w3 ⟨_, g1, hb3⟩
        obtain ⟨v, rfl, hpo⟩ := g1 ps HR.out
        obtain ⟨Ap, cp, rfl, _, _, _⟩ := own_form hpo
        have HB3 := Lib.hid (Below.call HB.out hb3 HB.out.size)
        have HK3 := Lib.hid (HK.out.below hb3 HK.out.lt)
        have HO3 := Lib.hid (own_below Hown.out hb3 (Nat.le_refl _))
        have HP3 := Lib.hid ((Hro.out.below hb3 (Nat.le_refl _)).snoc (r := ⟨s, ps, .slice Ap ps.length cp⟩) (own_base hpo HB.out.size))
        clear hb3 g1 hpo
        have HoA := Lib.hid (show (w3.alloc (.cells #[.string (B8 s), .slice Ap ps.length cp] 58)).ownsRow w.heap.size 58 2 (.slice Ao k co) k (rowC ls) from HO3.out.alloc _)
        have HrA := Lib.hid (rd_new2 w3 58 (.string (B8 s)) (.slice Ap ps.length cp))
        have HzA := Lib.hid (show w.heap.size ≤ (w3.alloc (.cells #[.string (B8 s), .slice Ap ps.length cp] 58)).heap.size by have := HB3.out.size; simp; omega)
        have HbA := Lib.hid (show Below w.heap.size w (w3.alloc (.cells #[.string (B8 s), .slice Ap ps.length cp] 58)) from Below.alloc HB3.out HB3.out.size _)
        have HkA := Lib.hid (HK3.out.alloc (.cells #[.string (B8 s), .slice Ap ps.length cp] 58))
        have HpA := Lib.hid (HP3.out.below (Below.alloc (Below.refl w3.heap.size w3) (Nat.le_refl _) (.cells #[.string (B8 s), .slice Ap ps.length cp] 58)) (Nat.le_refl _))
        have hk63 : k + 1 ≤ maxLen := by unfold maxLen; omega
        have hk8 : (k + 1) * 40 ≤ 140737488355328 := by omega
        go_wp2_with (at_builtin; refine wpList_append_rd _ rfl (.tmp 52) (.tmp 56) _ rfl w.heap.size 58 i0 (.agg #[.string ⟨#[]⟩, .slice none 0 0]) 2 40 Tryz.underlying40 Hi.out Hz0.out Hz1.out Hz2.out rfl (by decide) (.slice Ao k co) k _ rfl HoA.out _ _ 1 1 [.string (B8 s), .slice Ap ps.length cp] rfl HrA.out (row_one s Ap ps.length cp) hk63 hk8 HzA.out ?_; intro v' wa hown' hgr hat; have Hv := Lib.hid hown'; have HBb := Lib.hid (Below.grown HbA.out hgr HzA.out (fun g hg => (own_lt HoA.out g hg).1)); have HPb := Lib.hid (HpA.out.after HoA.out hgr); have HKb := Lib.hid (HkA.out.grown hgr (own_ne_blk HoA.out HkA.out (by decide))); clear hown' hgr hat)
        go_roundw
        case rel =>
          refine ⟨k + 1, ls ++ [⟨s, ps, .slice Ap ps.length cp⟩], by omega, by go_num, ?_, by rw [List.length_append, Hll.out]; rfl, HPb.out, Hfn.out, ?_, HBb.out, HKb.out⟩
          · rw [rowC_snoc]; exact Hv.out
          · rw [List.map_append, Hmap.out, List.range_succ, List.map_append, List.map_singleton, List.map_singleton, Hsg.out, HR.out]; rfl
        case measure => simp [intOf]; omega
    · obtain rfl : k = n := by omega
      have hkn' : ¬ (k : Int) < k := by omega
      clear q0 q1 q2 q3
      go_wp2
      go_ret2
      rw [Hr.out, Hfb.out]
      exact ⟨_, _, ls, rfl, .inl ⟨rfl, rfl⟩, by rw [Hll.out]; exact Hown.out, Hro.out, Hmap.out, fun h => absurd rfl h, HB.out⟩
end Go.Proofs.YthgefobcohlegaaGreatDoor

namespace Go.Proofs.YthgefobcohlegaaGreatDoor
open Go.RowKit
set_option linter.unusedVariables false

/-- The number and the place of what is wrong with points. -/
def ptF (l : List (Int × Int)) : Nat × Int := if 120 < l.length then (2, -1) else match (List.range l.length).find? fun i => decide (¬ okAt l i) with
  | some i => (codeAt l i + 1, (i : Int))
  | none => (0, -1)
theorem ptF_cases (l : List (Int × Int)) : (120 < l.length ∧ ptF l = (2, -1)) ∨ (l.length ≤ 120 ∧ ∃ i, i < l.length ∧ (∀ j, j < i → okAt l j) ∧ ¬ okAt l i ∧ ptF l = (codeAt l i + 1, (i : Int))) ∨ (l.length ≤ 120 ∧ (∀ j, j < l.length → okAt l j) ∧ ptF l = (0, -1)) := by
  unfold ptF
  by_cases h : 120 < l.length
  · exact .inl ⟨h, if_pos h⟩
  rw [if_neg h]
  cases hf : (List.range l.length).find? fun i => decide (¬ okAt l i) with
  | some i =>
    rw [List.find?_range_eq_some] at hf
    obtain ⟨h1, h2, h3⟩ := hf
    refine .inr (.inl ⟨by omega, i, by simpa using h2, fun j hj => ?_, by simpa using h1, rfl⟩)
    have := h3 j hj
    simpa using this
  | none =>
    rw [List.find?_range_eq_none] at hf
    exact .inr (.inr ⟨by omega, fun j hj => by have := hf j hj; simpa using this, rfl⟩)
theorem encode_u {es : Nat → Addr} {B : Nat} (A : Option Addr) (n c : Nat) (l : List (Int × Int)) (w : World) (hS : SV es B w) (hT : TabAt w) (hB0 : B ≤ w.heap.size) (hA : Rd w w.heap.size 2 A n (ptsC l)) (hl : ∀ p ∈ l, 0 ≤ p.2 ∧ p.2 < 18446744073709551616) :
    Calls Tryz.prog 120 #[.slice A n c] w fun e w' => ∃ v s, e = .returned (.tuple #[.string s, v]) ∧ EV es w.heap.size w' v (ptF l) ∧ ((ptF l).1 = 0 → s = bytesOf (chunkL l)) ∧ Below w.heap.size w w' := by
  have hlen : l.length = n := by have := hA.1; rw [flat_len (fun p : Int × Int => [Value.int .i64 p.1, Value.int .u64 p.2]) 2 (fun _ => rfl)] at this; omega
  rcases ptF_cases l with ⟨h, e⟩ | ⟨h, i, h1, h2, h3, e⟩ | ⟨h, h2, e⟩
  · refine (encode_long A n c w hS (by omega)).mono ?_
    rintro e' w' ⟨rfl, rfl⟩
    exact ⟨_, _, rfl, .inr (.inl ⟨1, by decide, e, rfl⟩), fun h => (by rw [e] at h; cases h), Below.refl _ _⟩
  · refine (encode_bad A n c l i w hS hB0 hA (by omega) (by omega) h2 h3).mono ?_
    rintro e' w' ⟨pb, rfl, q1, q2, q3, q4, q5⟩
    exact ⟨_, _, rfl, .inr (.inr ⟨codeAt l i, pb, i, (by unfold codeAt; split <;> omega), e, rfl, q1, q2, q3, q4⟩), fun h => (by rw [e] at h; simp at h), q5⟩
  · refine (encode_ok A n c l w hS hT hB0 hA (by omega) (fun j hj => h2 j (by omega)) hl).mono ?_
    rintro e' w' ⟨rfl, q⟩
    exact ⟨_, _, rfl, .inl ⟨e, rfl⟩, fun _ => rfl, q⟩
end Go.Proofs.YthgefobcohlegaaGreatDoor
