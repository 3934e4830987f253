/- LabelTexts by its contract: it returns true. -/
import Derived.Test.YtfnjgminbjopeaaDoorLabelled
import Derived.Test.YtfnjgminbjopeaaDoorLabOf
import Derived.Deep.RegionHeld3
namespace Go.Proofs.YtfnjgminbjopeaaDoor
open Go.RowKit
set_option linter.unusedVariables false

theorem B8_nil' : B8 [] = ⟨#[]⟩ := rfl
set_option maxRecDepth 100000 in
set_option maxHeartbeats 8000000 in
theorem labelTexts_law {es : Nat → Addr} {B : Nat} (A : Option Addr) (n c : Nat) (l : List Lb) (s : Bs) (w : World) (hS : Sents es B w) (hB : B = w.heap.size)
    (hA : Rd w w.heap.size 2 A n (lbC l)) (hn : n ≤ 140737488351232) :
    Calls Tryd.prog 4 #[.slice A n c, .string (B8 s)] w fun e w' => e = .returned (.bool true) ∧ Below w.heap.size w w' := by
  have hB0 : B ≤ w.heap.size := Nat.le_of_eq hB
  have hla : l.length = n := by have := hA.1; rw [lbC_len] at this; omega
  clear hB
  have Hck := Lib.hid (labelled_any w hS.vl hB0)
  have HS := Lib.hid hS; have Hla := Lib.hid hla
  have HA := Lib.hid (fun W (hb : Below w.heap.size w W) => (hA.below hb).more hb.size)
  obtain ⟨i0, hi, hz0, hz1, hz2⟩ := info_parts infoLb
  have Hi := Lib.hid hi; have Hz0 := Lib.hid hz0; have Hz1 := Lib.hid hz1; have Hz2 := Lib.hid hz2
  obtain ⟨m, hm⟩ : ∃ m, m = s.length := ⟨_, rfl⟩
  have hsz : (B8 s).size = m := by rw [B8_size, hm]
  have Hm := Lib.hid hm
  clear hS hA hla hi hz0 hz1 hz2 hm
  by_cases hms : 300 < m
  · have hms' : (300 : Int) < m := by omega
    generalize B8 s = st at hsz ⊢
    go_enter Tryd.func4, Tryd.ntmps4
    go_wp2_with fail
    refine (Hck.out).mono ?_
    rintro e w1 ⟨rfl, hb⟩
    have HB1 := Lib.hid hb; clear hb
    go_wp2_with fail
    refine (longLabels_any A n c l _ (HA.out _ HB1.out)).mono ?_
    rintro e w' ⟨hr, rfl⟩
    rcases hr with rfl | ⟨rfl, hn2, hsm⟩
    · go_wp2
      go_ret
      exact ⟨rfl, HB1.out⟩
    · clear hn2 hsm
      go_wp2
      go_ret
      exact ⟨rfl, HB1.out⟩
  have hm3 : m ≤ 300 := by omega
  have hm3' : ¬ (300 : Int) < m := by omega
  clear hms
  obtain ⟨c1, c2, hcF⟩ : ∃ c1 c2, lbF l = (c1, c2) := ⟨_, _, rfl⟩
  obtain ⟨d1, d2, hdF⟩ : ∃ d1 d2, rdF s = (d1, d2) := ⟨_, _, rfl⟩
  have HcF := Lib.hid hcF; have HdF := Lib.hid hdF
  have Hrd := Lib.hid (fun W (hb : Below w.heap.size w W) => lread_u s (by rw [← Hm.out]; omega) W (HS.out.below hb hB0).vl (Nat.le_trans hB0 hb.size))
  have Hof := Lib.hid (fun W => labelsOf_u s (by rw [← Hm.out]; omega) W)
  rw [hdF] at Hrd Hof
  have Hst := Lib.hid (fun (xs : List Lb) (h : parseL s = some xs) => show B8 s = B8 (textL xs) by rw [text_parse h])
  have Htx := Lib.hid (fun A2 c' W (hb : Below w.heap.size w W) (hr : Rd W W.heap.size 2 A2 n (lbC l)) => ltext_u A2 n c' l W (HS.out.below hb hB0).vl (Nat.le_trans hB0 hb.size) hr)
  have Hch := Lib.hid (fun W (hb : Below w.heap.size w W) => lcheck_u A n c l W (HS.out.below hb hB0).vl (Nat.le_trans hB0 hb.size) (HA.out W hb))
  have Hlf := Lib.hid (fun W (hb : Below w.heap.size w W) (hs : LbSmall l) => labelsFault_u A n c l W (HA.out W hb) (fun p hp => by have := hs p hp; omega))
  rw [hcF] at Htx Hch Hlf
  obtain ⟨t1, ht1⟩ : ∃ t1, t1 = B8 (if (c1, c2).1 = 0 then textL l else []) := ⟨_, rfl⟩
  rw [← ht1] at Htx
  have Ht1 := Lib.hid ht1
  clear hcF hdF ht1
  generalize B8 s = st at hsz Hrd Hof Hst ⊢
  go_enter Tryd.func4, Tryd.ntmps4
  go_wp2_with fail
  refine (Hck.out).mono ?_
  rintro e w1 ⟨rfl, hb⟩
  have HB1 := Lib.hid hb; clear hb
  go_wp2_with fail
  refine (longLabels_any A n c l _ (HA.out _ HB1.out)).mono ?_
  rintro e w' ⟨hr, rfl⟩
  rcases hr with rfl | ⟨rfl, hn2, hsm⟩
  · go_wp2
    go_ret
    exact ⟨rfl, HB1.out⟩
  have Hsm := Lib.hid hsm
  have hk63 : 0 + n ≤ maxLen := by unfold maxLen; omega
  have hk8 : (0 + n) * 32 ≤ 140737488355328 := by omega
  have hw1 : w.heap.size ≤ w1.heap.size := HB1.out.size
  clear hsm hn
  go_wp2_with (at_builtin; refine wpList_append_rd _ rfl (.tmp 31) (.tmp 32) _ rfl w1.heap.size 50 i0 (.agg #[.string ⟨#[]⟩, .string ⟨#[]⟩]) 2 32 Tryd.underlying35 Hi.out Hz0.out Hz1.out Hz2.out rfl (by decide) _ 0 _ rfl (World.ownsRow_nil _ _ _ _) w1.heap.size A n c _ rfl (HA.out _ HB1.out |>.below (Below.refl _ _)) (lbC_one l) hk63 hk8 (Nat.le_refl _) ?_; intro v2 w2 hown' hgr hat; obtain ⟨A2, c2', rfl, _, _, hr2⟩ := own_form hown'; have HR2 := Lib.hid hr2; have HB2 := Lib.hid (Below.grown HB1.out hgr hw1 (fun g hg => by cases hg)); clear hown' hgr hat hr2)
  refine (Htx.out A2 c2' _ HB2.out (by simpa using HR2.out)).mono ?_
  rintro e w3 ⟨v3, rfl, hev, hb⟩
  have HE3 := Lib.hid hev; have HB3 := Lib.hid (Below.call HB2.out hb HB2.out.size)
  clear hev hb
  go_wp2_with fail
  refine (Hlf.out _ HB3.out Hsm.out).mono ?_
  rintro e w4 ⟨rfl, hb⟩
  rw [show fV (c1, c2) = .agg #[.int .i64 (c1 : Int), .int .i64 c2] from rfl]
  have HE4 := Lib.hid (HE3.out.below hb (Nat.le_refl _))
  have HB4 := Lib.hid (Below.call HB3.out hb HB3.out.size)
  have hw4 : w.heap.size ≤ w4.heap.size := HB4.out.size
  have HF5 := Lib.hid (show Blk (w4.alloc (.cells #[.int .i64 (c1 : Int), .int .i64 c2] 29)).drew w4.heap.size 29 #[.int .i64 (c1 : Int), .int .i64 c2] from (Blk.new w4 _ _).drew)
  have HB5 := Lib.hid (show Below w.heap.size w (w4.alloc (.cells #[.int .i64 (c1 : Int), .int .i64 c2] 29)).drew from (Below.alloc HB4.out hw4 _).drew)
  have Hb45 := Lib.hid (show Below w4.heap.size w4 (w4.alloc (.cells #[.int .i64 (c1 : Int), .int .i64 c2] 29)).drew from (Below.alloc (Below.refl _ _) (Nat.le_refl _) _).drew)
  have HS5 := Lib.hid HF5.out.duo2
  clear hb
  go_wp2_with fail
  go_region_held3 (fun w' => w'.cell? ⟨w4.heap.size, 0, none⟩ = some (.int .i64 (c1 : Int)) ∧ w'.cell? ⟨w4.heap.size, 1, none⟩ = some (.int .i64 c2))
    (first | with_reducible exact HS5.out | with_reducible exact HS7.out | with_reducible exact HS8.out)
    (first
      | (go_at_call 24; refine (Hch.out _ HB5.out).mono ?_; rintro e w7 ⟨v7, rfl, hev, hb⟩; have HB7 := Lib.hid (Below.call HB5.out hb HB5.out.size); have HF7 := Lib.hid (HF5.out.below hb HF5.out.lt); have HS7 := Lib.hid HF7.out.duo2; have Hb47 := Lib.hid (Below.call Hb45.out hb Hb45.out.size); have HE7 := Lib.hid hev; clear hb hev)
      | (go_at_call 23; refine (faulted_ev _ c1 c2 _ (HS.out.below HB7.out hB0) (Nat.le_trans hB0 HB7.out.size) HE7.out).mono ?_; rintro e w8 ⟨rfl, hb⟩; have HF8 := Lib.hid (HF7.out.below hb HF7.out.lt); have HS8 := Lib.hid HF8.out.duo2; have HB8 := Lib.hid (Below.call HB7.out hb HB7.out.size); have Hb48 := Lib.hid (Below.call Hb47.out hb Hb47.out.size); clear hb))
  all_goals
    obtain ⟨z0, z1⟩ := HS8.out
    have HE8 := Lib.hid (HE4.out.below Hb48.out (Nat.le_refl _))
    by_cases h0 : c1 = 0
  case' pos =>
    subst h0
    obtain rfl := HE8.out.zero rfl
    obtain ⟨g1, g2, g3, g4⟩ : 1 ≤ l.length ∧ l.length ≤ 6 ∧ (∀ j, j < l.length → lbOk l j) ∧ lbF l = (0, -1) := by
      have hc := HcF.out
      rcases lbF_cases l with ⟨_, e⟩ | ⟨_, e⟩ | ⟨i, _, _, _, _, _, e⟩ | h
      · rw [e] at hc; cases hc
      · rw [e] at hc; cases hc
      · rw [e] at hc; have := congrArg Prod.fst hc; simp at this
      · exact h
    have hp := parse_ok (l := l) (by rintro rfl; simp at g1) g3
    have htl := textL_len g2 g3
    have Hq := Lib.hid (show rdF (textL l) = (0, c2) by rw [rdF_some hp]; exact HcF.out)
    have Hp := Lib.hid hp
    rw [if_pos rfl] at Ht1
    have Hr2 := Lib.hid (lread_u (textL l) (by omega) w8 (HS.out.below HB8.out hB0).vl (Nat.le_trans hB0 HB8.out.size))
    have Hlt := Lib.hid (fun W (hb : Below w.heap.size w W) => labelsText_any A n c l W (HA.out W hb) (by rw [← Hla.out]; exact g2) (by rw [← Hla.out]; exact g3))
    rw [Hq.out, ← Ht1.out] at Hr2
    rw [← Ht1.out] at Hlt
    clear g1 g2 g3 g4 hp htl
    go_wp2_with fail
    refine (Hr2.out).mono ?_
    rintro e w8b ⟨v8, u8, l8, rfl, hev, hown, hx1, _, hb⟩
    obtain rfl := hev.zero rfl
    obtain rfl : l8 = l := Option.some.inj ((hx1 (by first | rfl | trivial)).symm.trans Hp.out)
    rw [Hla.out] at hown
    obtain ⟨A8, c8, rfl, _, _, _⟩ := own_form hown
    have HB8b := Lib.hid (Below.call HB8.out hb HB8.out.size)
    clear hev hown hx1 hb
    go_wp2_with fail
    refine (Hlt.out _ HB8b.out).mono ?_
    rintro e w9 ⟨rfl, hb⟩
    have HB9 := Lib.hid (Below.call HB8b.out hb HB8b.out.size)
    clear hb
    go_wp2_with fail
  case' neg =>
    have h0' : (0 : Int) < (c1 : Int) := by omega
    obtain rfl : t1 = ⟨#[]⟩ := by have := Ht1.out; rw [if_neg h0] at this; exact this
    go_wp2_with fail
    refine (faulted_ev _ c1 c2 _ (HS.out.below HB8.out hB0) (Nat.le_trans hB0 HB8.out.size) HE8.out).mono ?_
    rintro e w9 ⟨rfl, hb⟩
    have HB9 := Lib.hid (Below.call HB8.out hb HB8.out.size)
    clear hb
    go_wp2_with fail
  all_goals
    refine (Hrd.out _ HB9.out).mono ?_
    rintro e w10 ⟨v10, u10, xs, rfl, hev, hown, hx1, hx2, hb⟩
    obtain ⟨Ax, cx, rfl, _, _, hrx⟩ := own_form hown
    have HE10 := Lib.hid hev; have HB10 := Lib.hid (Below.call HB9.out hb HB9.out.size)
    have Hrx := Lib.hid hrx; have Hx1 := Lib.hid hx1; have Hx2 := Lib.hid hx2
    clear hev hown hrx hx1 hx2 hb
    go_wp2_with fail
    refine (Hof.out _).mono ?_
    rintro e w11 ⟨u11, ys, rfl, hown, hy1, hy2, hb⟩
    rw [show fV (d1, d2) = .agg #[.int .i64 (d1 : Int), .int .i64 d2] from rfl]
    obtain rfl : ys = xs := by
      by_cases hd : d1 = 0
      · exact Option.some.inj ((hy1 hd).symm.trans (Hx1.out hd))
      · rw [hy2 hd, Hx2.out hd]
    obtain ⟨Ay, cy, rfl, _, _, hry⟩ := own_form hown
    have HE11 := Lib.hid (HE10.out.below hb (Nat.le_refl _)); have HB11 := Lib.hid (Below.call HB10.out hb HB10.out.size)
    have Hrx11 := Lib.hid ((Hrx.out.below hb).more hb.size); have Hry := Lib.hid hry
    clear hown hry hy1 hy2 hb
    go_wp2_with fail
    have hb12 : Below w11.heap.size w11 (w11.alloc (.cells #[.int .i64 (d1 : Int), .int .i64 d2] 29)) := Below.alloc (Below.refl _ _) (Nat.le_refl _) _
    have HE12 := Lib.hid (HE11.out.below hb12 (Nat.le_refl _))
    have HB12 := Lib.hid (Below.call HB11.out hb12 HB11.out.size)
    have HF12 := Lib.hid (Blk.new w11 29 #[.int .i64 (d1 : Int), .int .i64 d2])
    have Hrx12 := Lib.hid ((Hrx11.out.below hb12).more hb12.size); have Hry12 := Lib.hid ((Hry.out.below hb12).more hb12.size)
    clear hb12
    refine (faulted_ev _ d1 d2 _ (HS.out.below HB12.out hB0) (Nat.le_trans hB0 HB12.out.size) HE12.out).mono ?_
    rintro e w13 ⟨rfl, hb⟩
    have HB13 := Lib.hid (Below.call HB12.out hb HB12.out.size)
    have HF13 := Lib.hid (HF12.out.below hb HF12.out.lt)
    have Hrx13 := Lib.hid ((Hrx12.out.below hb).more hb.size); have Hry13 := Lib.hid ((Hry12.out.below hb).more hb.size)
    have hys : ys.length ≤ 1000 := by
      by_cases hd : d1 = 0
      · have := (parse_len (Hx1.out hd)).1; rw [← Hm.out] at this; omega
      · rw [Hx2.out hd]; simp
    obtain ⟨q, hq⟩ : ∃ q, q = ys.length := ⟨_, rfl⟩
    rw [← hq] at hys Hrx13 Hry13 ⊢
    have Hq2 := Lib.hid hq
    clear hb hq
    go_wp2
    go_loopw [15] (fun iv wr => ∃ k : Nat, k ≤ q ∧ iv = .int .i64 k ∧ Below w13.heap.size w13 wr) (fun iv _ => q - (intOf iv).toNat)
    case atStart => exact ⟨0, Nat.zero_le _, rfl, Below.refl _ _⟩
    case round =>
      obtain ⟨k, hk, rfl, hbel⟩ := hrel
      by_cases hkn : k < q
      · obtain ⟨b0, o0, y, hA0, had0, hy0, e0, e0b⟩ := Hrx13.out.at2 hkn
        obtain ⟨b1, o1, z, hA1, had1, hz1, e1, e1b⟩ := Hry13.out.at2 hkn
        obtain rfl : y = z := Option.some.inj (hy0.symm.trans hz1)
        subst hA0; subst hA1
        have x0 := (hbel.cell (p := ⟨b0, o0 + k * 2, none⟩) had0).trans e0
        have x1 := (hbel.cell (p := ⟨b0, o0 + k * 2 + 1, none⟩) had0).trans e0b
        have x2 := (hbel.cell (p := ⟨b1, o1 + k * 2, none⟩) had1).trans e1
        have x3 := (hbel.cell (p := ⟨b1, o1 + k * 2 + 1, none⟩) had1).trans e1b
        have Hbel := Lib.hid hbel
        clear hy0 hz1 e0 e1 e0b e1b hbel
        generalize B8 y.1 = t7 at x0 x2
        generalize B8 y.2 = t8 at x1 x3
        go_wp2
        go_quiet (fail)
        go_wp2
        go_roundw
        case rel => exact ⟨k + 1, by omega, by go_num, Below.drewN Hbel.out _⟩
        case measure => simp [intOf]; omega
      · obtain rfl : k = q := by omega
        have hbf := HF13.out.below hbel HF13.out.lt
        have z2 := hbf.cell 0
        simp only [List.getElem?_toArray, List.getElem?_cons_zero] at z2
        have HBr := Lib.hid (Below.call HB13.out hbel HB13.out.size)
        have Hrxr := Lib.hid ((Hrx13.out.below hbel).more hbel.size)
        clear hbel hbf
        by_cases hd : d1 = 0
        · subst hd
          have hpx := Hx1.out rfl
          have Hte := Lib.hid (show st = B8 (textL ys) from Hst.out ys hpx)
          have hlf : lbF ys = (0, d2) := by rw [← rdF_some hpx]; exact HdF.out
          have Hlast := ltext_u Ax k cx ys wr (HS.out.below HBr.out hB0).vl (Nat.le_trans hB0 HBr.out.size) Hrxr.out
          rw [hlf, if_pos rfl, ← Hte.out] at Hlast
          have HL := Lib.hid Hlast
          clear hpx hlf Hlast
          go_wp2_with fail
          refine HL.out.mono ?_
          rintro e w15 ⟨v15, rfl, hev, hb⟩
          obtain rfl := hev.zero rfl
          have HB15 := Lib.hid (Below.call HBr.out hb HBr.out.size)
          clear hev hb
          go_wp2
          go_ret
          exact ⟨by simp, HB15.out⟩
        · have hd' : (0 : Int) < (d1 : Int) := by omega
          go_wp2
          go_ret
          exact ⟨rfl, HBr.out⟩
end Go.Proofs.YtfnjgminbjopeaaDoor
