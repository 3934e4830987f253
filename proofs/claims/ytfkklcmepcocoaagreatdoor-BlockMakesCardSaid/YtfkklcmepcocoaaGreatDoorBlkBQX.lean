/- One series of a block: (Block).End, (Block).one by contracts. -/
import Derived.Test.YtfkklcmepcocoaaGreatDoorMkfX
import Derived.Test.YtfkklcmepcocoaaGreatDoorChunkDecQX
import Derived.Deep.RegionHeld3
namespace Go.Proofs.YtfkklcmepcocoaaGreatDoor
open Go.RowKit
set_option linter.unusedVariables false

/-- Does the series stand behind the one before it (false), or not? -/
def dupB (ser : List Bs) (i : Nat) : Bool := decide (0 < i) && leS (ser.getD i []) (ser.getD (i - 1) [])
def oneV (f : Nat × Int) (dup : Bool) (d : PRes) (fr en : Int) : PRes :=
  if f.1 ≠ 0 then .err (f.1 - 1) else if dup = true then .err 2 else
  match d with
  | .err c => .err c
  | .ok l => if l.length = 0 then .err 4 else if allIn fr en l = true then .ok l else .err 1
/-- What (Block).one answers. -/
def oneR (fr en : Int) (ser : List Bs) (ch : List (List Nat)) (i : Nat) : PRes := oneV (rdF (ser.getD i [])) (dupB ser i) (decR (ch.getD i [])) fr en
theorem decR_le {xs : List Nat} {l : List (Int × Int)} (h : decR xs = .ok l) : l.length ≤ 120 := by
  unfold decR at h
  split at h
  · cases h
  · split at h
    · cases h
    · split at h
      · cases h
      · rename_i l' hp
        split at h
        · injection h with h
          subst h
          exact (ptR_ok hp).1
        · cases h
theorem bend_any (fr sp en : Int) (A A' : Option Addr) (n c n' c' : Nat) (hE : en = fr + sp) (h1 : -9223372036854775808 ≤ fr + sp) (h2 : fr + sp < 9223372036854775808) (w : World) :
    Calls Tryz.prog 66 #[.agg #[.int .i64 fr, .int .i64 sp, .slice A n c, .slice A' n' c']] w fun e w' => e = .returned (.int .i64 en) ∧ Below w.heap.size w w' := by
  have Hb := Lib.hid (show Below w.heap.size w (w.alloc (.cells #[.int .i64 fr, .int .i64 sp, .slice A n c, .slice A' n' c'] 27)) from Below.alloc (Below.refl _ _) (Nat.le_refl _) _)
  have HE := Lib.hid hE
  clear hE
  go_enter Tryz.func66, Tryz.ntmps66
  go_wp2
  go_ret
  exact ⟨by rw [HE.out]; rfl, Hb.out⟩
set_option maxRecDepth 100000 in
set_option maxHeartbeats 4000000 in
theorem one_any {es : Nat → Addr} {B : Nat} (fr sp en : Int) (A A' : Option Addr) (n c c' : Nat) (ser : List Bs) (ch : List (List Nat)) (i : Nat) (w : World) (hS : SBk es B w) (hT : TabAt w) (hTB : 18 < B) (hB0 : B ≤ w.heap.size)
    (hA : Rd w w.heap.size 1 A n (ser.map fun s => .string (B8 s))) (hC : Rd w w.heap.size 1 A' n (ch.map fun x => .string (bytesOf x))) (hn : n ≤ 60) (hi : i < n)
    (hsl : ∀ s ∈ ser, s.length ≤ 100000) (hcl : ∀ x ∈ ch, x.length ≤ 100000 ∧ ∀ b ∈ x, b < 256) (hE : en = fr + sp) (hE1 : -9223372036854775808 ≤ fr + sp) (hE2 : fr + sp < 9223372036854775808) :
    Calls Tryz.prog 91 #[.agg #[.int .i64 fr, .int .i64 sp, .slice A n c, .slice A' n c'], .int .i64 (i : Int)] w fun e w' =>
      (∀ k, oneR fr en ser ch i = .err k → e = .returned (.tuple #[.slice none 0 0, sentV (es k)])) ∧
      (∀ l, oneR fr en ser ch i = .ok l → ∃ v, e = .returned (.tuple #[v, .nilIface]) ∧ w'.ownsRow w.heap.size 51 2 v l.length (ptsC l)) ∧ Below w.heap.size w w' := by
  obtain ⟨b0, o0, s, rfl, had0, hs, x0⟩ := hA.at1 hi
  obtain ⟨b1, o1, xs, rfl, had1, hx, y0⟩ := hC.at1 hi
  have hsl1 := hsl s (List.mem_of_getElem? hs)
  obtain ⟨hxl, hx256⟩ := hcl xs (List.mem_of_getElem? hx)
  clear hcl hsl
  -- the series before it
  obtain ⟨j, s', hj1, hj2, hj3, xj, hdup⟩ : ∃ (j : Nat) (s' : Bs), (0 < i → i ≤ j + 1) ∧ (0 < i → j + 1 ≤ i) ∧ j < n ∧ w.cell? ⟨b0, o0 + j, none⟩ = some (.string (B8 s')) ∧ dupB ser i = (decide (0 < i) && leS s s') := by
    have hj : i - 1 < n := by omega
    obtain ⟨b2, o2, s', e2, _, hs', x2⟩ := hA.at1 hj
    injection e2 with e2
    injection e2 with e2 e3
    subst e2; subst e3
    refine ⟨i - 1, s', fun h => by omega, fun h => by omega, hj, x2, ?_⟩
    unfold dupB
    rw [List.getD_eq_getElem?_getD, List.getD_eq_getElem?_getD, hs, hs']
    rfl
  have hone : oneR fr en ser ch i = oneV (rdF s) (decide (0 < i) && leS s s') (decR xs) fr en := by
    unfold oneR
    rw [hdup, List.getD_eq_getElem?_getD, hs, List.getD_eq_getElem?_getD, hx]
    rfl
  rw [hone]
  clear hone hdup hs hx hA hC
  have hb1 : Below w.heap.size w (w.alloc (.cells #[.int .i64 fr, .int .i64 sp, .slice (some ⟨b0, o0, none⟩) n c, .slice (some ⟨b1, o1, none⟩) n c'] 27)) := Below.alloc (Below.refl _ _) (Nat.le_refl _) _
  have hk1 := Blk.new w 27 #[.int .i64 fr, .int .i64 sp, .slice (some ⟨b0, o0, none⟩) n c, .slice (some ⟨b1, o1, none⟩) n c']
  have Hl := Lib.hid (fun W (hb : Below w.heap.size w W) => lread_u s hsl1 W (hS.below hb hB0).vl (Nat.le_trans hB0 hb.size))
  have Hd := Lib.hid (fun W (hb : Below w.heap.size w W) => decode_any xs W (hS.below hb hB0).v (hT.call hb (Nat.le_refl _)) hTB (Nat.le_trans hB0 hb.size) hx256 hxl)
  have Hbare := Lib.hid (fun C v c W (hb : Below w.heap.size w W) (hv : EV es C W v c) (hc : c.1 ≠ 0) => cbare_any v c W hv hc (hS.below hb hB0) (Nat.le_trans hB0 hb.size))
  have Hx := Lib.hid (fun W (hb : Below w.heap.size w W) => show W.cell? ⟨b0, o0 + i, none⟩ = some (.string (B8 s)) ∧ W.cell? ⟨b0, o0 + j, none⟩ = some (.string (B8 s')) ∧ W.cell? ⟨b1, o1 + i, none⟩ = some (.string (bytesOf xs)) from
    ⟨(hb.cell (p := ⟨b0, o0 + i, none⟩) had0).trans x0, (hb.cell (p := ⟨b0, o0 + j, none⟩) had0).trans xj, (hb.cell (p := ⟨b1, o1 + i, none⟩) had1).trans y0⟩)
  have Hg := Lib.hid (fun W (hb : Below w.heap.size w W) => show W.cell? ⟨0, 0, none⟩ = some (sentV (es 1)) ∧ W.cell? ⟨1, 0, none⟩ = some (sentV (es 2)) ∧ W.cell? ⟨6, 0, none⟩ = some (sentV (es 4)) from
    ⟨(hS.below hb hB0).var 1 (by decide), (hS.below hb hB0).var 2 (by decide), (hS.below hb hB0).var 4 (by decide)⟩)
  have Hend := Lib.hid (fun W => bend_any fr sp en (some ⟨b0, o0, none⟩) (some ⟨b1, o1, none⟩) n c n c' hE hE1 hE2 W)
  have HB1 := Lib.hid hb1; have HK1 := Lib.hid hk1
  have hin : (i : Int) < n := by omega
  clear x0 xj y0 hsl1 hx256 hxl hS hT hTB hb1 hk1 hE hE1 hE2 hB0
  obtain ⟨x0, xj, y0⟩ := Hx.out _ HB1.out
  have q2 := HK1.out.cell 2
  have hcmp : (Op.bytesLess (B8 s).toList (B8 s').toList || (B8 s).toList == (B8 s').toList) = leS s s' := by rw [B8_toList, B8_toList]; rfl
  have Hcmp := Lib.hid hcmp
  clear hcmp
  obtain ⟨fc, hfc⟩ : ∃ fc, rdF s = fc := ⟨_, rfl⟩
  rw [hfc] at Hl ⊢
  clear hfc
  go_enter Tryz.func91, Tryz.ntmps91
  go_wp2_with fail
  refine (Hl.out _ HB1.out).mono ?_
  rintro e w2 ⟨v, u, l, rfl, hev, hown, _, _, hb2⟩
  obtain ⟨Au, cu, rfl, _, _, _⟩ := own_form hown
  have HB2 := Lib.hid (Below.call HB1.out hb2 HB1.out.size)
  have HK2 := Lib.hid (HK1.out.below hb2 HK1.out.lt)
  obtain ⟨x0, xj, y0⟩ := Hx.out _ HB2.out
  obtain ⟨e1, e2, e4⟩ := Hg.out _ HB2.out
  have q0 := HK2.out.cell 0
  have q1 := HK2.out.cell 1
  have q2 := HK2.out.cell 2
  have q3 := HK2.out.cell 3
  have Hev := Lib.hid hev
  clear hown hb2
  by_cases hc0 : fc.1 = 0
  case neg =>
    obtain ⟨t, p, rfl⟩ := hev.pos hc0
    have Hbb := Lib.hid (Hbare.out _ _ _ _ HB2.out Hev.out hc0)
    have Hone := Lib.hid (show oneV fc (decide (0 < i) && leS s s') (decR xs) fr en = .err (fc.1 - 1) from if_pos hc0)
    clear hev hc0
    go_wp2_with fail
    refine Hbb.out.mono ?_
    rintro e w3 ⟨rfl, hb3⟩
    have HB3 := Lib.hid (Below.call HB2.out hb3 HB2.out.size)
    clear hb3
    go_wp2
    go_ret2
    exact ⟨fun k h => (by rw [Hone.out] at h; injection h with h; subst h; rfl), fun l h => (by rw [Hone.out] at h; cases h), HB3.out⟩
  obtain rfl := hev.zero hc0
  clear hev
  by_cases hdu : (decide (0 < i) && leS s s') = true
  · have Hone := Lib.hid (show oneV fc (decide (0 < i) && leS s s') (decR xs) fr en = .err 2 by unfold oneV; rw [if_neg (by simpa using hc0), if_pos hdu])
    have hi0 : 0 < i := by rw [Bool.and_eq_true, decide_eq_true_eq] at hdu; exact hdu.1
    have hle := Hcmp.out
    rw [show leS s s' = true by rw [Bool.and_eq_true] at hdu; exact hdu.2] at hle
    have hi0' : (0 : Int) < i := by omega
    have hd0 : decide ((0 : Int) < i) = true := decide_eq_true hi0'
    have hw : IntKind.i64.wrap ((i : Int) - 1) = (j : Int) := by rw [IntKind.wrap_i64]; have := hj1 hi0; have := hj2 hi0; omega
    have hjn : (j : Int) < n := by omega
    clear hdu hj1 hj2 hc0
    go_wp2
    go_quiet (fail)
    go_wp2
    go_quiet (fail)
    go_wp2
    go_ret2
    exact ⟨fun k h => (by rw [Hone.out] at h; injection h with h; subst h; rfl), fun l h => (by rw [Hone.out] at h; cases h), by first | exact HB2.out | exact Below.drewN HB2.out _ | exact Below.drewN (Below.drewN HB2.out _) _⟩
  have Hdu := Lib.hid (show (decide (0 < i) && leS s s') = false by simpa using hdu)
  have hov : oneV fc (decide (0 < i) && leS s s') (decR xs) fr en = match decR xs with
      | .err c => .err c
      | .ok l => if l.length = 0 then .err 4 else if allIn fr en l = true then .ok l else .err 1 := by
    unfold oneV; rw [if_neg (by simpa using hc0), if_neg hdu]
  clear hdu hc0
  have Hov := Lib.hid hov
  clear hov
  have hw : 0 < i → IntKind.i64.wrap ((i : Int) - 1) = (j : Int) := fun h => by rw [IntKind.wrap_i64]; have := hj1 h; have := hj2 h; omega
  have hjn : (j : Int) < n := by omega
  clear hj1 hj2
  rcases Nat.eq_zero_or_pos i with h0 | h0
  case' inl =>
    have hd0 : decide ((0 : Int) < i) = false := decide_eq_false (by omega)
    have hd1 : decide (0 < i) = false := decide_eq_false (by omega)
    clear hw h0
    go_wp2
    go_quiet (fail)
  case' inr =>
    have hd0 : decide ((0 : Int) < i) = true := decide_eq_true (by omega)
    have hd1 : decide (0 < i) = true := decide_eq_true h0
    have hle := Hcmp.out
    rw [show leS s s' = false by have := Hdu.out; rw [decide_eq_true h0, Bool.true_and] at this; exact this] at hle
    replace hw := hw h0
    clear h0
    go_wp2
    go_quiet (fail)
    clear hle hw
  all_goals
    have HB3 := Lib.hid (show Below w.heap.size w (w2.drewN nq) from Below.drewN HB2.out nq)
    have HK3 := Lib.hid (HK2.out.drewN nq)
    clear x0 xj y0 e1 e2 e4 q0 q1 q2 q3 hd0 hd1
    generalize w2.drewN nq = w3 at HB3 HK3 ⊢
    obtain ⟨x0, xj, y0⟩ := Hx.out _ HB3.out
    have q3 := HK3.out.cell 3
    rcases hdx : decR xs with k | ps
    · have Hone := Lib.hid (show oneV fc (decide (0 < i) && leS s s') (decR xs) fr en = .err k by rw [Hov.out, hdx])
      have Hdx := Lib.hid hdx
      clear hdx
      go_wp2_with fail
      refine (Hd.out _ HB3.out).mono ?_
      rintro e w4 ⟨g1, _, hb4⟩
      obtain rfl := g1 k Hdx.out
      have HB4 := Lib.hid (Below.call HB3.out hb4 HB3.out.size)
      clear hb4 g1
      go_wp2
      go_ret2
      exact ⟨fun k h => (by rw [Hone.out] at h; injection h with h; subst h; rfl), fun l h => (by rw [Hone.out] at h; cases h), HB4.out⟩
    · have Hone := Lib.hid (show oneV fc (decide (0 < i) && leS s s') (decR xs) fr en = if ps.length = 0 then .err 4 else if allIn fr en ps = true then .ok ps else .err 1 by rw [Hov.out, hdx])
      have Hdx := Lib.hid hdx
      have hm := decR_le hdx
      clear hdx
      go_wp2_with fail
      refine (Hd.out _ HB3.out).mono ?_
      rintro e w4 ⟨_, g1, hb4⟩
      obtain ⟨v, rfl, hown⟩ := g1 ps Hdx.out
      obtain ⟨Ap, cp, rfl, hp1, hp2, hrp⟩ := own_form hown
      have HB4 := Lib.hid (Below.call HB3.out hb4 HB3.out.size)
      have HK4 := Lib.hid (HK3.out.below hb4 HK3.out.lt)
      have Hown := Lib.hid (own_base hown HB3.out.size)
      have Hw := Lib.hid (fun W (hb : Below w4.drew.heap.size w4.drew W) => within_any Ap ps.length cp ps fr en W ((Rd.below (w := w4.drew) hrp.drew hb).more hb.size) (by omega))
      have HBd := Lib.hid (show Below w.heap.size w w4.drew from HB4.out.drew)
      have HKd := Lib.hid (HK4.out.drew)
      have HOd := Lib.hid (own_drew Hown.out)
      obtain ⟨m, hm0⟩ : ∃ m, m = ps.length := ⟨_, rfl⟩
      obtain ⟨_, _, e4⟩ := Hg.out _ HB4.out
      clear hb4 g1 hown hrp
      by_cases hmz : m = 0
      · have hmb : ((m : Int) == 0) = true := by rw [beq_iff_eq]; omega
        have Hno := Lib.hid (show oneV fc (decide (0 < i) && leS s s') (decR xs) fr en = .err 4 by rw [Hone.out, if_pos (hm0.symm.trans hmz)])
        rw [← hm0]
        clear hmz hm0
        go_wp2
        go_quiet (fail)
        go_wp2
        go_ret2
        exact ⟨fun k h => (by rw [Hno.out] at h; injection h with h; subst h; rfl), fun l h => (by rw [Hno.out] at h; cases h), by first | exact HB4.out | exact Below.drewN HB4.out _ | exact Below.drewN (Below.drewN HB4.out _) _⟩
      · have hmb : ((m : Int) == 0) = false := by rw [beq_eq_false_iff_ne]; omega
        have Hno := Lib.hid (show oneV fc (decide (0 < i) && leS s s') (decR xs) fr en = if allIn fr en ps = true then .ok ps else .err 1 by rw [Hone.out, if_neg (by rw [← hm0]; exact hmz)])
        have Hm0 := Lib.hid hm0
        rw [← hm0] at Hw ⊢
        clear hmz hm0
        obtain ⟨ai, hai⟩ : ∃ ai, allIn fr en ps = ai := ⟨_, rfl⟩
        rw [hai] at Hw
        have Hai := Lib.hid hai
        clear hai
        have Hkc := Lib.hid (fun W (h : Blk W w.heap.size 27 #[.int .i64 fr, .int .i64 sp, .slice (some ⟨b0, o0, none⟩) n c, .slice (some ⟨b1, o1, none⟩) n c']) => show W.cell? ⟨w.heap.size, 0, none⟩ = some (.int .i64 fr) ∧ W.cell? ⟨w.heap.size, 1, none⟩ = some (.int .i64 sp) ∧ W.cell? ⟨w.heap.size, 2, none⟩ = some (.slice (some ⟨b0, o0, none⟩) n c) ∧ W.cell? ⟨w.heap.size, 3, none⟩ = some (.slice (some ⟨b1, o1, none⟩) n c') from ⟨h.cell 0, h.cell 1, h.cell 2, h.cell 3⟩)
        go_wp2
        go_region_held3 (fun w' => w'.cell? ⟨w.heap.size, 0, none⟩ = some (.int .i64 fr) ∧ w'.cell? ⟨w.heap.size, 1, none⟩ = some (.int .i64 sp) ∧ w'.cell? ⟨w.heap.size, 2, none⟩ = some (.slice (some ⟨b0, o0, none⟩) n c) ∧ w'.cell? ⟨w.heap.size, 3, none⟩ = some (.slice (some ⟨b1, o1, none⟩) n c'))
          (first | with_reducible exact Hkc.out _ HKd.out | with_reducible exact Hkc.out _ HK5.out | with_reducible exact Hkc.out _ HK6.out)
          (first | (go_at_call 66; refine (Hend.out _).mono ?_; rintro e w5 ⟨rfl, hb⟩; have HB5 := Lib.hid hb; have HK5 := Lib.hid (HKd.out.below hb HKd.out.lt); clear hb) | (go_at_call 90; refine (Hw.out _ HB5.out).mono ?_; rintro e w6 ⟨rfl, hb⟩; have HB6 := Lib.hid (Below.call HB5.out hb HB5.out.size); have HK6 := Lib.hid (HK5.out.below hb HK5.out.lt); clear hb))
        all_goals
          have HBe := Lib.hid (Below.call HBd.out HB6.out HBd.out.size)
          have HOe := Lib.hid (own_below HOd.out HB6.out (Nat.le_refl _))
          obtain ⟨e1, _, _⟩ := Hg.out _ HBe.out
          cases ai
          · have Hre := Lib.hid (show oneV fc (decide (0 < i) && leS s s') (decR xs) fr en = .err 1 by rw [Hno.out, Hai.out]; rfl)
            go_wp2
            go_quiet (fail)
            go_wp2
            go_ret2
            exact ⟨fun k h => (by rw [Hre.out] at h; injection h with h; subst h; rfl), fun l h => (by rw [Hre.out] at h; cases h), by first | exact HBe.out | exact Below.drewN HBe.out _ | exact Below.drewN (Below.drewN HBe.out _) _⟩
          · have Hre := Lib.hid (show oneV fc (decide (0 < i) && leS s s') (decR xs) fr en = .ok ps by rw [Hno.out, Hai.out]; rfl)
            go_wp2
            go_ret2
            exact ⟨fun k h => (by rw [Hre.out] at h; cases h), fun l h => (by rw [Hre.out] at h; injection h with h; subst h; exact ⟨_, by rw [Hm0.out]; rfl, by first | exact HOe.out | exact own_drewN HOe.out _⟩), by first | exact HBe.out | exact Below.drewN HBe.out _ | exact Below.drewN (Below.drewN HBe.out _) _⟩
end Go.Proofs.YtfkklcmepcocoaaGreatDoor
