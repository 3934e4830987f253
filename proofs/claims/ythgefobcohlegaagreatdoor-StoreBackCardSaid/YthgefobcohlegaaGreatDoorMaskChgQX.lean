/- mask.change by its contract. -/
import Derived.Test.YthgefobcohlegaaGreatDoorMaskHeadQX
import Derived.Test.YthgefobcohlegaaGreatDoorMklX
namespace Go.Proofs.YthgefobcohlegaaGreatDoor
open Go.RowKit
set_option linter.unusedVariables false

theorem u64_shl (v t d : Nat) (h : v * 2 ^ t < 18446744073709551616) : IntKind.u64.wrap ((v : Int) * 2 ^ t) = ((v * 2 ^ t : Nat) : Int) := by
  have e : (v : Int) * 2 ^ t = ((v * 2 ^ t : Nat) : Int) := by simp
  rw [e, IntKind.wrap_u64]
  generalize v * 2 ^ t = x at h
  omega
theorem x_hasWlt {a t d v : Nat} (h1 : a ≤ 31) (h2 : 1 ≤ d) (h3 : a + t + d = 64) (hv : v < 2 ^ d) : v * 2 ^ t < 18446744073709551616 := by
  have h : v * 2 ^ t < 2 ^ d * 2 ^ t := Nat.mul_lt_mul_of_lt_of_le hv (Nat.le_refl _) (Nat.two_pow_pos _)
  rw [← Nat.pow_add] at h
  exact Nat.lt_of_lt_of_le h (Nat.pow_le_pow_right (n := 2) (by decide) (show d + t ≤ 64 by omega))
theorem mof_some (x : Nat) (w : World) (h : x < 18446744073709551616) (hT : TabAt w) :
    Calls Tryz.prog 211 #[.int .u64 (x : Int)] w fun e w' => ∃ a t d : Int, e = .returned (.agg #[.int .i64 a, .int .i64 t, .int .i64 d]) ∧ Below w.heap.size w w' :=
  (mof_int x w h hT).mono fun _ _ h => ⟨_, _, _, h.1, h.2⟩
/-- What change answers. -/
def CPost (es : Nat → Addr) (g N : Nat) (xs : List Nat) (w : World) (r : CRes) (e : Ending) (w' : World) : Prop :=
  (∀ c, r = .err c → ∃ a t d : Int, e = .returned (.tuple #[.int .u64 0, .agg #[.int .i64 a, .int .i64 t, .int .i64 d], sentV (es c)])) ∧
  (∀ (x : Nat) (w2 : Win) (q' : Nat), r = .ok x w2 q' → e = .returned (.tuple #[.int .u64 (x : Int), .agg #[.int .i64 w2.a, .int .i64 w2.t, .int .i64 w2.d], .nilIface]) ∧ ReaderAt w' g xs q' N) ∧ Fr (fun k => k = g) w w'
theorem CPost.err {es : Nat → Addr} {g N : Nat} {xs : List Nat} {w w' : World} {r : CRes} {c : Nat} {a t d : Int} {e : Ending} (h : r = .err c) (he : e = .returned (.tuple #[.int .u64 0, .agg #[.int .i64 a, .int .i64 t, .int .i64 d], sentV (es c)])) (hf : Fr (fun k => k = g) w w') : CPost es g N xs w r e w' :=
  ⟨fun c' h' => (by rw [h] at h'; injection h' with h'; subst h'; exact ⟨a, t, d, he⟩), fun x w2 q' h' => (by rw [h] at h'; cases h'), hf⟩
theorem CPost.ok {es : Nat → Addr} {g N q' : Nat} {xs : List Nat} {w w' : World} {r : CRes} {x : Nat} {w2 : Win} {e : Ending} (h : r = .ok x w2 q') (he : e = .returned (.tuple #[.int .u64 (x : Int), .agg #[.int .i64 w2.a, .int .i64 w2.t, .int .i64 w2.d], .nilIface])) (hr : ReaderAt w' g xs q' N) (hf : Fr (fun k => k = g) w w') : CPost es g N xs w r e w' :=
  ⟨fun c' h' => (by rw [h] at h'; cases h'), fun x' w2' q2 h' => (by rw [h] at h'; injection h' with e1 e2 e3; subst e1; subst e2; subst e3; exact ⟨he, hr⟩), hf⟩

set_option maxRecDepth 100000 in
set_option maxHeartbeats 8000000 in
theorem change_any {es : Nat → Addr} {B : Nat} (g q N : Nat) (xs : List Nat) (S : List Bool) (w : World) (ww : Win) (hSS : S = (rbits xs).take N) (hS : SV es B w) (hT : TabAt w) (hTB : 19 < B) (hB0 : B ≤ w.heap.size) (hBg : B ≤ g) (h : ReaderAt w g xs q N) (hwo : ww = w0 ∨ ww.Ok) :
    Calls Tryz.prog 215 #[.pointer (some ⟨g, 0, none⟩), .agg #[.int .i64 ww.a, .int .i64 ww.t, .int .i64 ww.d]] w (CPost es g N xs w (chg S ww q)) := by
  have hSl : S.length = N := by rw [hSS]; exact h.len
  have hg : g < w.heap.size := h.1.lt
  have hgl : 4 < w.heap.size := Nat.lt_of_lt_of_le (hS.glt 0 (by decide)) hB0
  obtain ⟨wA, hwA⟩ : ∃ wA, wA = (w.alloc (.cells #[.int .i64 ww.a, .int .i64 ww.t, .int .i64 ww.d] 316)).alloc (.cells #[.int .i64 0, .int .i64 0, .int .i64 0] 316) := ⟨_, rfl⟩
  have hzA : wA.heap.size = w.heap.size + 2 := by rw [hwA]; simp
  have hFA : Fr (fun k => k = g) w wA := by rw [hwA]; exact ((Fr.refl _ _).alloc _).alloc _
  have hKA : Blk wA w.heap.size 316 #[.int .i64 ww.a, .int .i64 ww.t, .int .i64 ww.d] := by rw [hwA]; exact (Blk.new w _ _).alloc _
  have hLA : Blk wA (w.heap.size + 1) 316 #[.int .i64 0, .int .i64 0, .int .i64 0] := by
    rw [hwA]
    have := Blk.new (w.alloc (.cells #[.int .i64 ww.a, .int .i64 ww.t, .int .i64 ww.d] 316)) 316 #[.int .i64 0, .int .i64 0, .int .i64 0]
    simp only [World.size_alloc] at this
    exact this
  have hRA : ReaderAt wA g xs q N := by rw [hwA]; exact ⟨(h.1.alloc _).alloc _, h.2⟩
  have HS := Lib.hid hS; have HT := Lib.hid hT; have HSl := Lib.hid hSl; have HSS := Lib.hid hSS; have HwA := Lib.hid hwA; have HzA := Lib.hid hzA; have HFA := Lib.hid hFA; have HKA := Lib.hid hKA; have HLA := Lib.hid hLA; have HRA := Lib.hid hRA; have Hwo := Lib.hid hwo
  have HSV := Lib.hid (show ∀ W, Fr (fun k => k = g) w W → SV es B W from fun W hf => HS.out.below (hf.below hB0 (fun k hk hs => by omega)) (Nat.le_refl _))
  have HTV := Lib.hid (show ∀ W, Fr (fun k => k = g) w W → TabAt W from fun W hf => HT.out.below (hf.below hB0 (fun k hk hs => by omega)) hTB)
  obtain ⟨la, lt, ld⟩ := ww
  clear hSl hwA hzA hFA hKA hLA hRA h hT hSS hS hwo
  go_enter Tryz.func215, Tryz.ntmps215
  go_wp2_with fail
  rw [← HwA.out]
  by_cases c1 : N < q + 1
  · have Hc := Lib.hid (show chg S ⟨la, lt, ld⟩ q = .err 4 from chg_1 (by rw [HSl.out]; exact c1))
    refine (get_none g q N xs 1 _ (HSV.out _ HFA.out) (by rw [HzA.out]; omega) HRA.out (by omega) c1).mono ?_
    rintro e w1 ⟨rfl, hb⟩
    have HK1 := Lib.hid (HKA.out.below hb HKA.out.lt)
    have HL1 := Lib.hid (HLA.out.below hb HLA.out.lt)
    have HF1 := Lib.hid (Fr.call HFA.out hb (by rw [HzA.out]; omega))
    clear hb
    obtain ⟨k0, k1, k2⟩ := HK1.out.trio
    obtain ⟨l0, l1, l2⟩ := HL1.out.trio
    have m0 := HL1.out.frozen 0; have m1 := HL1.out.frozen 1; have m2 := HL1.out.frozen 2
    go_wp2
    go_region
    go_wp2
    (try simp only [Exit.inBlock, Exit.then])
    have HB3 := (((HL1.out.set_ 0 (.int .i64 (la : Int))).set_ 1 (.int .i64 (lt : Int))).set_ 2 (.int .i64 (ld : Int))).drew
    refine bodyPost_ret (res_change _ _ _ _ _ _ _ rfl HB3) rfl ?_
    exact CPost.err Hc.out rfl ((((HF1.out.setCell (.inl (Nat.le_succ _)) _).setCell (.inl (Nat.le_succ _)) _).setCell (.inl (Nat.le_succ _)) _).drew)
  · refine (get_ok g q N xs 1 _ HRA.out (by omega) (by omega)).mono ?_
    rintro e w1 ⟨rfl, hr1, hf1⟩
    rw [rd_at (N := N) (by omega), ← HSS.out]
    have HK1 := Lib.hid (hf1.blk HKA.out (by omega))
    have HL1 := Lib.hid (hf1.blk HLA.out (by omega))
    have HF1 := Lib.hid (Fr.trans HFA.out hf1 (fun k _ h => h))
    have HR1 := Lib.hid hr1
    have hw1 : w.heap.size + 2 ≤ w1.heap.size := by have := hf1.size; rw [HzA.out] at this; exact this
    clear hf1 hr1
    have hv := vAt_lt S q 1
    by_cases hv0 : vAt S q 1 = 0
    · have Hc := Lib.hid (show chg S ⟨la, lt, ld⟩ q = .ok 0 ⟨la, lt, ld⟩ (q + 1) from chg_0 (by rw [HSl.out]; exact c1) hv0)
      rw [hv0, show ((0 : Nat) : Int) = 0 from rfl]
      clear hv hv0
      obtain ⟨k0, k1, k2⟩ := HK1.out.trio
      obtain ⟨l0, l1, l2⟩ := HL1.out.trio
      have m0 := HL1.out.frozen 0; have m1 := HL1.out.frozen 1; have m2 := HL1.out.frozen 2
      go_wp2
      go_region
      go_wp2
      (try simp only [Exit.inBlock, Exit.then])
      have HB3 := (((HL1.out.set_ 0 (.int .i64 (la : Int))).set_ 1 (.int .i64 (lt : Int))).set_ 2 (.int .i64 (ld : Int))).drew
      refine bodyPost_ret (res_change _ _ _ _ _ _ _ rfl HB3) rfl ?_
      exact CPost.ok Hc.out rfl ⟨(((HR1.out.1.far (by show g ≠ w.heap.size + 1; omega) _).far (by show g ≠ w.heap.size + 1; omega) _).far (by show g ≠ w.heap.size + 1; omega) _).drew, HR1.out.2⟩ ((((HF1.out.setCell (.inl (Nat.le_succ _)) _).setCell (.inl (Nat.le_succ _)) _).setCell (.inl (Nat.le_succ _)) _).drew)
    · have hv1 : vAt S q 1 = 1 := by omega
      rw [hv1, show ((1 : Nat) : Int) = 1 from rfl]
      have HV := Lib.hid hv0
      clear hv hv0 hv1
      go_wp2_with fail
      by_cases c2 : N < q + 2
      · have Hc := Lib.hid (show chg S ⟨la, lt, ld⟩ q = .err 4 from chg_2 (by rw [HSl.out]; exact c2) HV.out)
        refine (get_none g (q + 1) N xs 1 _ (HSV.out _ HF1.out) (by omega) HR1.out (by omega) (by omega)).mono ?_
        rintro e w2 ⟨rfl, hb⟩
        have HK2 := Lib.hid (HK1.out.below hb HK1.out.lt)
        have HL2 := Lib.hid (HL1.out.below hb HL1.out.lt)
        have HF2 := Lib.hid (Fr.call HF1.out hb (by omega))
        clear hb
        obtain ⟨k0, k1, k2⟩ := HK2.out.trio
        obtain ⟨l0, l1, l2⟩ := HL2.out.trio
        have m0 := HL2.out.frozen 0; have m1 := HL2.out.frozen 1; have m2 := HL2.out.frozen 2
        go_wp2
        go_region
        go_wp2
        (try simp only [Exit.inBlock, Exit.then])
        have HB3 := (((HL2.out.set_ 0 (.int .i64 (la : Int))).set_ 1 (.int .i64 (lt : Int))).set_ 2 (.int .i64 (ld : Int))).drew
        refine bodyPost_ret (res_change _ _ _ _ _ _ _ rfl HB3) rfl ?_
        exact CPost.err Hc.out rfl ((((HF2.out.setCell (.inl (Nat.le_succ _)) _).setCell (.inl (Nat.le_succ _)) _).setCell (.inl (Nat.le_succ _)) _).drew)
      · refine (get_ok g (q + 1) N xs 1 _ HR1.out (by omega) (by omega)).mono ?_
        rintro e w2 ⟨rfl, hr2, hf2⟩
        rw [rd_at (N := N) (by omega), ← HSS.out]
        have HR2 := Lib.hid (show ReaderAt (w2.alloc (.cells #[.int .i64 (la : Int), .int .i64 (lt : Int), .int .i64 (ld : Int)] 316)) g xs (q + 2) N from ⟨hr2.1.alloc _, hr2.2⟩)
        have HK2 := Lib.hid (hf2.blk HK1.out (by omega))
        have HL2 := Lib.hid (hf2.blk HL1.out (by omega))
        have HF2 := Lib.hid (Fr.trans HF1.out hf2 (fun k _ h => h))
        have hw2 : w.heap.size + 2 ≤ w2.heap.size := Nat.le_trans hw1 hf2.size
        have HK3 := Lib.hid (HK2.out.alloc (.cells #[.int .i64 (la : Int), .int .i64 (lt : Int), .int .i64 (ld : Int)] 316))
        have HL3 := Lib.hid (HL2.out.alloc (.cells #[.int .i64 (la : Int), .int .i64 (lt : Int), .int .i64 (ld : Int)] 316))
        have HM3 := Lib.hid (Blk.new w2 316 #[.int .i64 (la : Int), .int .i64 (lt : Int), .int .i64 (ld : Int)])
        have HF3 := Lib.hid (HF2.out.alloc (.cells #[.int .i64 (la : Int), .int .i64 (lt : Int), .int .i64 (ld : Int)] 316))
        obtain ⟨k0, k1, k2⟩ := HK2.out.trio
        have hlt0 : w.heap.size < w2.heap.size := by omega
        have hlt1 : w.heap.size + 1 < w2.heap.size := by omega
        clear hf2 hr2
        have hv := vAt_lt S (q + 1) 1
        by_cases hn1 : vAt S (q + 1) 1 = 1
        · rw [hn1, show ((1 : Nat) : Int) = 1 from rfl]
          have HV1 := Lib.hid hn1
          clear hv hn1
          go_wp2_with fail
          refine (mhead_any g (q + 2) N xs S _ HSS.out (HSV.out _ HF3.out) (by simp; omega) hBg HR2.out).mono ?_
          rintro e w4 ⟨hh1, hh2, hh3, hf4⟩
          have HK4 := Lib.hid (hf4.blk HK3.out (by omega))
          have HL4 := Lib.hid (hf4.blk HL3.out (by omega))
          have HM4 := Lib.hid (hf4.blk HM3.out (by omega))
          have HF4 := Lib.hid (Fr.trans HF3.out hf4 (fun k _ h => h))
          have hw4 : w2.heap.size + 1 ≤ w4.heap.size := by have := hf4.size; simpa using this
          clear hf4 k0 k1 k2
          obtain ⟨k0, k1, k2⟩ := HK4.out.trio
          have n0 := HK4.out.frozen 0; have n1 := HK4.out.frozen 1; have n2 := HK4.out.frozen 2
          by_cases c3 : N < q + 13
          · have Hc := Lib.hid (show chg S ⟨la, lt, ld⟩ q = .err 4 from chg_3 (by rw [HSl.out]; exact c2) (by rw [HSl.out]; exact c3) HV.out HV1.out)
            obtain rfl := hh1 (by rw [HSl.out]; omega)
            clear hh1 hh2 hh3
            have HK5 := Lib.hid (show Blk (((w4.setCell ⟨w.heap.size, 0, none⟩ (.int .i64 0)).setCell ⟨w.heap.size, 1, none⟩ (.int .i64 0)).setCell ⟨w.heap.size, 2, none⟩ (.int .i64 0)) w.heap.size 316 #[.int .i64 0, .int .i64 0, .int .i64 0] from ((HK4.out.set_ 0 _).set_ 1 _).set_ 2 _)
            have HL5 := Lib.hid (show Blk (((w4.setCell ⟨w.heap.size, 0, none⟩ (.int .i64 0)).setCell ⟨w.heap.size, 1, none⟩ (.int .i64 0)).setCell ⟨w.heap.size, 2, none⟩ (.int .i64 0)) (w.heap.size + 1) 316 #[.int .i64 0, .int .i64 0, .int .i64 0] from ((HL4.out.far (by simp) _).far (by simp) _).far (by simp) _)
            have HF5 := Lib.hid (show Fr (fun k => k = g) w (((w4.setCell ⟨w.heap.size, 0, none⟩ (.int .i64 0)).setCell ⟨w.heap.size, 1, none⟩ (.int .i64 0)).setCell ⟨w.heap.size, 2, none⟩ (.int .i64 0)) from ((HF4.out.setCell (.inl (Nat.le_refl _)) _).setCell (.inl (Nat.le_refl _)) _).setCell (.inl (Nat.le_refl _)) _)
            obtain ⟨k0, k1, k2⟩ := HK5.out.trio
            obtain ⟨l0, l1, l2⟩ := HL5.out.trio
            have m0 := HL5.out.frozen 0; have m1 := HL5.out.frozen 1; have m2 := HL5.out.frozen 2
            go_wp2
            go_region
            go_wp2
            (try simp only [Exit.inBlock, Exit.then])
            have HB3 := (((HL5.out.set_ 0 (.int .i64 0)).set_ 1 (.int .i64 0)).set_ 2 (.int .i64 0)).drew
            refine bodyPost_ret (res_change _ _ _ _ _ _ _ rfl HB3) rfl ?_
            exact CPost.err Hc.out rfl ((((HF5.out.setCell (.inl (Nat.le_succ _)) _).setCell (.inl (Nat.le_succ _)) _).setCell (.inl (Nat.le_succ _)) _).drew)
          · by_cases hfar : 64 < vAt S (q + 2) 5 + dAt S (q + 7)
            · have Hc := Lib.hid (show chg S ⟨la, lt, ld⟩ q = .err 0 from chg_far (by rw [HSl.out]; exact c3) HV.out HV1.out hfar)
              obtain rfl := hh2 (by rw [HSl.out]; omega) hfar
              clear hh1 hh2 hh3 hfar
              have HK5 := Lib.hid (show Blk (((w4.setCell ⟨w.heap.size, 0, none⟩ (.int .i64 0)).setCell ⟨w.heap.size, 1, none⟩ (.int .i64 0)).setCell ⟨w.heap.size, 2, none⟩ (.int .i64 0)) w.heap.size 316 #[.int .i64 0, .int .i64 0, .int .i64 0] from ((HK4.out.set_ 0 _).set_ 1 _).set_ 2 _)
              have HL5 := Lib.hid (show Blk (((w4.setCell ⟨w.heap.size, 0, none⟩ (.int .i64 0)).setCell ⟨w.heap.size, 1, none⟩ (.int .i64 0)).setCell ⟨w.heap.size, 2, none⟩ (.int .i64 0)) (w.heap.size + 1) 316 #[.int .i64 0, .int .i64 0, .int .i64 0] from ((HL4.out.far (by simp) _).far (by simp) _).far (by simp) _)
              have HF5 := Lib.hid (show Fr (fun k => k = g) w (((w4.setCell ⟨w.heap.size, 0, none⟩ (.int .i64 0)).setCell ⟨w.heap.size, 1, none⟩ (.int .i64 0)).setCell ⟨w.heap.size, 2, none⟩ (.int .i64 0)) from ((HF4.out.setCell (.inl (Nat.le_refl _)) _).setCell (.inl (Nat.le_refl _)) _).setCell (.inl (Nat.le_refl _)) _)
              obtain ⟨k0, k1, k2⟩ := HK5.out.trio
              obtain ⟨l0, l1, l2⟩ := HL5.out.trio
              have m0 := HL5.out.frozen 0; have m1 := HL5.out.frozen 1; have m2 := HL5.out.frozen 2
              go_wp2
              go_region
              go_wp2
              (try simp only [Exit.inBlock, Exit.then])
              have HB3 := (((HL5.out.set_ 0 (.int .i64 0)).set_ 1 (.int .i64 0)).set_ 2 (.int .i64 0)).drew
              refine bodyPost_ret (res_change _ _ _ _ _ _ _ rfl HB3) rfl ?_
              exact CPost.err Hc.out rfl ((((HF5.out.setCell (.inl (Nat.le_succ _)) _).setCell (.inl (Nat.le_succ _)) _).setCell (.inl (Nat.le_succ _)) _).drew)
            · obtain ⟨rfl, hr4⟩ := hh3 (by rw [HSl.out]; omega) hfar
              have hok := fresh_ok hfar
              have Hch := Lib.hid (chg_new (w := ⟨la, lt, ld⟩) (by rw [HSl.out]; exact c3) HV.out HV1.out hfar)
              clear hh1 hh2 hh3 hfar
              generalize freshW S (q + 2) = fw at hok Hch ⊢
              obtain ⟨fa, ft, fd⟩ := fw
              obtain ⟨ok1, ok2, ok3⟩ := hok
              simp only at ok1 ok2 ok3
              obtain ⟨w5, hw5⟩ : ∃ w5, w5 = ((w4.setCell ⟨w.heap.size, 0, none⟩ (.int .i64 (fa : Int))).setCell ⟨w.heap.size, 1, none⟩ (.int .i64 (ft : Int))).setCell ⟨w.heap.size, 2, none⟩ (.int .i64 (fd : Int)) := ⟨_, rfl⟩
              have HK5 := Lib.hid (show Blk w5 w.heap.size 316 #[.int .i64 (fa : Int), .int .i64 (ft : Int), .int .i64 (fd : Int)] from by rw [hw5]; exact ((HK4.out.set_ 0 _).set_ 1 _).set_ 2 _)
              have HL5 := Lib.hid (show Blk w5 (w.heap.size + 1) 316 #[.int .i64 0, .int .i64 0, .int .i64 0] from by rw [hw5]; exact ((HL4.out.far (by simp) _).far (by simp) _).far (by simp) _)
              have HM5 := Lib.hid (show Blk w5 w2.heap.size 316 #[.int .i64 (la : Int), .int .i64 (lt : Int), .int .i64 (ld : Int)] from by rw [hw5]; exact ((HM4.out.far (by show w2.heap.size ≠ w.heap.size; omega) _).far (by show w2.heap.size ≠ w.heap.size; omega) _).far (by show w2.heap.size ≠ w.heap.size; omega) _)
              have HF5 := Lib.hid (show Fr (fun k => k = g) w w5 from by rw [hw5]; exact ((HF4.out.setCell (.inl (Nat.le_refl _)) _).setCell (.inl (Nat.le_refl _)) _).setCell (.inl (Nat.le_refl _)) _)
              have HR5 := Lib.hid (show ReaderAt w5 g xs (q + 13) N from by rw [hw5]; exact ⟨((hr4.1.far (by show g ≠ w.heap.size; omega) _).far (by show g ≠ w.heap.size; omega) _).far (by show g ≠ w.heap.size; omega) _, hr4.2⟩)
              have hz5 : w5.heap.size = w4.heap.size := by rw [hw5]; simp
              have hw5' : w.heap.size + 2 ≤ w5.heap.size := by omega
              have Hw5 := Lib.hid hw5
              have hd0 : ((fd : Int) == 0) = false := by rw [beq_eq_false_iff_ne]; omega
              clear hr4 hw5 hz5
              go_wp2_with fail
              rw [← Hw5.out]
              clear k0 k1 k2
              by_cases c5 : N < (q + 13) + fd
              · have Hc := Lib.hid (show chg S ⟨la, lt, ld⟩ q = .err 4 from by rw [Hch.out]; exact body_none (by rw [HSl.out]; exact c5))
                refine (get_none g (q + 13) N xs fd _ (HSV.out _ HF5.out) (by omega) HR5.out (by omega) c5).mono ?_
                rintro e w6 ⟨rfl, hb⟩
                have HK6 := Lib.hid (HK5.out.below hb HK5.out.lt)
                have HL6 := Lib.hid (HL5.out.below hb HL5.out.lt)
                have HF6 := Lib.hid (Fr.call HF5.out hb (by omega))
                clear hb
                obtain ⟨k0, k1, k2⟩ := HK6.out.trio
                obtain ⟨l0, l1, l2⟩ := HL6.out.trio
                have m0 := HL6.out.frozen 0; have m1 := HL6.out.frozen 1; have m2 := HL6.out.frozen 2
                go_wp2
                go_region
                go_wp2
                (try simp only [Exit.inBlock, Exit.then])
                have HB3 := (((HL6.out.set_ 0 (.int .i64 (fa : Int))).set_ 1 (.int .i64 (ft : Int))).set_ 2 (.int .i64 (fd : Int))).drew
                refine bodyPost_ret (res_change _ _ _ _ _ _ _ rfl HB3) rfl ?_
                exact CPost.err Hc.out rfl ((((HF6.out.setCell (.inl (Nat.le_succ _)) _).setCell (.inl (Nat.le_succ _)) _).setCell (.inl (Nat.le_succ _)) _).drew)
              · refine (get_ok g (q + 13) N xs fd _ HR5.out (by omega) (by omega)).mono ?_
                rintro e w6 ⟨rfl, hr6, hf6⟩
                rw [rd_at (N := N) (by omega), ← HSS.out]
                have hv := vAt_lt S (q + 13) fd
                have HK6 := Lib.hid (hf6.blk HK5.out (by omega))
                have HL6 := Lib.hid (hf6.blk HL5.out (by omega))
                have HM6 := Lib.hid (hf6.blk HM5.out (by have := HM5.out.lt; omega))
                have HF6 := Lib.hid (Fr.trans HF5.out hf6 (fun k _ h => h))
                have HR6 := Lib.hid hr6
                have hw6 : w.heap.size + 2 ≤ w6.heap.size := Nat.le_trans hw5' hf6.size
                obtain ⟨v, hve⟩ : ∃ v, v = vAt S (q + 13) fd := ⟨_, rfl⟩
                rw [← hve] at hv ⊢
                have HVE := Lib.hid hve
                clear hr6 hf6 hve
                have hx2 : v * 2 ^ ft < 18446744073709551616 := (x_hasWlt ok1 ok2 ok3 hv)
                by_cases hX0 : v * 2 ^ ft = 0
                · have hv0 : v = 0 := by
                    rcases Nat.mul_eq_zero.1 hX0 with h | h
                    · exact h
                    · exact absurd h (by have := Nat.two_pow_pos ft; omega)
                  have Hc := Lib.hid (show chg S ⟨la, lt, ld⟩ q = .err 0 from by rw [Hch.out]; exact body_bad (by rw [HSl.out]; exact c5) (.inl (by rw [← HVE.out]; exact hX0)))
                  subst hv0
                  rw [show ((0 : Nat) : Int) = 0 from rfl]
                  clear hX0 hx2 hv
                  obtain ⟨y0, y1, y2⟩ := HK6.out.trio
                  go_wp2_with fail
                  refine (mof_some 0 _ (by omega) (HTV.out _ HF6.out)).mono ?_
                  rintro e w7 ⟨a0, t0, d0, rfl, hb7⟩
                  have HK7 := Lib.hid (HK6.out.below hb7 HK6.out.lt)
                  have HL7 := Lib.hid (HL6.out.below hb7 HL6.out.lt)
                  have HF7 := Lib.hid (Fr.call HF6.out hb7 (by omega))
                  have hw7 : w.heap.size + 2 ≤ w7.heap.size := Nat.le_trans hw6 hb7.size
                  have hlt2 : w.heap.size < w7.heap.size := by omega
                  have hlt3 : w.heap.size + 1 < w7.heap.size := by omega
                  clear hb7 y0 y1 y2
                  have gA : (w7.alloc (.cells #[.int .i64 a0, .int .i64 t0, .int .i64 d0] 316)).cell? ⟨4, 0, none⟩ = some (sentV (es 0)) := (HSV.out _ (HF7.out.alloc _)).var 0 (by decide)
                  have gB : ((((w7.setCell ⟨w.heap.size + 1, 0, none⟩ (.int .i64 (fa : Int))).setCell ⟨w.heap.size + 1, 1, none⟩ (.int .i64 (ft : Int))).setCell ⟨w.heap.size + 1, 2, none⟩ (.int .i64 (fd : Int))).alloc (.cells #[.int .i64 a0, .int .i64 t0, .int .i64 d0] 316)).cell? ⟨4, 0, none⟩ = some (sentV (es 0)) := (HSV.out _ ((((HF7.out.setCell (.inl (Nat.le_succ _)) _).setCell (.inl (Nat.le_succ _)) _).setCell (.inl (Nat.le_succ _)) _).alloc _)).var 0 (by decide)
                  obtain ⟨k0, k1, k2⟩ := HK7.out.trio
                  obtain ⟨l0, l1, l2⟩ := HL7.out.trio
                  have m0 := HL7.out.frozen 0; have m1 := HL7.out.frozen 1; have m2 := HL7.out.frozen 2
                  obtain ⟨p0, p1, p2⟩ := (HK7.out.alloc (.cells #[.int .i64 a0, .int .i64 t0, .int .i64 d0] 316)).trio
                  go_wp2
                  go_region
                  go_wp2
                  (try simp only [Exit.inBlock, Exit.then])
                  have HB3 := ((((HL7.out.set_ 0 (.int .i64 (fa : Int))).set_ 1 (.int .i64 (ft : Int))).set_ 2 (.int .i64 (fd : Int))).alloc (.cells #[.int .i64 a0, .int .i64 t0, .int .i64 d0] 316)).drew
                  refine bodyPost_ret (res_change _ _ _ _ _ _ _ rfl HB3) rfl ?_
                  exact CPost.err Hc.out rfl ((((HF7.out.setCell (.inl (Nat.le_succ _)) _).setCell (.inl (Nat.le_succ _)) _).setCell (.inl (Nat.le_succ _)) _).alloc _).drew
                · obtain ⟨X, hX⟩ : ∃ X, X = v * 2 ^ ft := ⟨_, rfl⟩
                  have sh : IntKind.u64.wrap ((v : Int) * 2 ^ ft) = (X : Int) := by rw [u64_shl v ft fd hx2, hX]
                  rw [← hX] at hX0 hx2
                  have hx0 : ((X : Int) == 0) = false := by rw [beq_eq_false_iff_ne]; omega
                  obtain ⟨kw, hkw⟩ : ∃ kw, kw = winOf X := ⟨_, rfl⟩
                  have HX := Lib.hid hX; have Hkw := Lib.hid hkw; have HX0 := Lib.hid hX0
                  obtain ⟨ka, kt, kd⟩ := kw
                  obtain ⟨y0, y1, y2⟩ := HK6.out.trio
                  clear hX hkw hv
                  go_wp2_with fail
                  refine (mof_w X _ Hkw.out _ hx2 hX0 (HTV.out _ HF6.out)).mono ?_
                  rintro e w7 ⟨rfl, hb7⟩
                  have HK7 := Lib.hid (HK6.out.below hb7 HK6.out.lt)
                  have HL7 := Lib.hid (HL6.out.below hb7 HL6.out.lt)
                  have HM7 := Lib.hid (HM6.out.below hb7 HM6.out.lt)
                  have HR7 := Lib.hid (HR6.out.below hb7 (Nat.le_refl _))
                  have HF7 := Lib.hid (Fr.call HF6.out hb7 (by omega))
                  have hw7 : w.heap.size + 2 ≤ w7.heap.size := Nat.le_trans hw6 hb7.size
                  have hlt2 : w.heap.size < w7.heap.size := by omega
                  have hlt3 : w.heap.size + 1 < w7.heap.size := by omega
                  have hlt4 : w2.heap.size < w7.heap.size := by have := HM7.out.lt; omega
                  clear hb7 y0 y1 y2 hX0
                  have Hbad := Lib.hid (show (hasW ⟨la, lt, ld⟩ ⟨ka, kt, kd⟩ ∨ (⟨ka, kt, kd⟩ : Win) ≠ ⟨fa, ft, fd⟩) → chg S ⟨la, lt, ld⟩ q = .err 0 from fun hh => by rw [Hch.out]; exact body_bad (by rw [HSl.out]; exact c5) (.inr ⟨rfl, by rw [← HVE.out, ← HX.out, ← Hkw.out]; exact hh⟩))
                  have Hgood := Lib.hid (show ¬ hasW ⟨la, lt, ld⟩ ⟨ka, kt, kd⟩ → (⟨ka, kt, kd⟩ : Win) = ⟨fa, ft, fd⟩ → chg S ⟨la, lt, ld⟩ q = .ok X ⟨fa, ft, fd⟩ ((q + 13) + fd) from fun h1 h2 => by rw [Hch.out, HX.out, HVE.out]; exact body_ok (by rw [HSl.out]; exact c5) (fun h => by rcases h with h | ⟨_, h | h⟩; exact HX0.out (by rw [HX.out, HVE.out]; exact h); exact h1 (by rw [Hkw.out, HX.out, HVE.out]; exact h); exact h (by rw [← HVE.out, ← HX.out, ← Hkw.out]; exact h2)))
                  obtain ⟨u0, u1, u2⟩ := HM7.out.trio
                  go_wp2_with fail
                  refine (mhas_w ⟨la, lt, ld⟩ ⟨ka, kt, kd⟩ _).mono ?_
                  rintro e w8 ⟨rfl, hb8⟩
                  have HK8 := Lib.hid ((HK7.out.alloc (.cells #[.int .i64 (ka : Int), .int .i64 (kt : Int), .int .i64 (kd : Int)] 316)).below hb8 (by simp; omega))
                  have HL8 := Lib.hid ((HL7.out.alloc (.cells #[.int .i64 (ka : Int), .int .i64 (kt : Int), .int .i64 (kd : Int)] 316)).below hb8 (by simp; omega))
                  have HW8 := Lib.hid ((Blk.new w7 316 #[.int .i64 (ka : Int), .int .i64 (kt : Int), .int .i64 (kd : Int)]).below hb8 (by simp))
                  have HF8 := Lib.hid (Fr.call (HF7.out.alloc (.cells #[.int .i64 (ka : Int), .int .i64 (kt : Int), .int .i64 (kd : Int)] 316)) hb8 (by simp; omega))
                  have HR8 := Lib.hid (show ReaderAt w8 g xs (q + 13 + fd) N from ⟨(HR7.out.1.alloc _).below hb8 (by simp; omega), HR7.out.2⟩)
                  have hw8 : w.heap.size + 2 ≤ w8.heap.size := by have := hb8.size; simp at this; omega
                  clear hb8 u0 u1 u2
                  obtain ⟨u0, u1, u2⟩ := HW8.out.trio
                  by_cases hh : hasW ⟨la, lt, ld⟩ ⟨ka, kt, kd⟩
                  · rw [decide_eq_true hh]
                    have Hc := Lib.hid (Hbad.out (.inl hh))
                    clear hh
                    have gA : w8.cell? ⟨4, 0, none⟩ = some (sentV (es 0)) := (HSV.out _ HF8.out).var 0 (by decide)
                    have gB : (((w8.setCell ⟨w.heap.size + 1, 0, none⟩ (.int .i64 (fa : Int))).setCell ⟨w.heap.size + 1, 1, none⟩ (.int .i64 (ft : Int))).setCell ⟨w.heap.size + 1, 2, none⟩ (.int .i64 (fd : Int))).cell? ⟨4, 0, none⟩ = some (sentV (es 0)) := (HSV.out _ (((HF8.out.setCell (.inl (Nat.le_succ _)) _).setCell (.inl (Nat.le_succ _)) _).setCell (.inl (Nat.le_succ _)) _)).var 0 (by decide)
                    obtain ⟨k0, k1, k2⟩ := HK8.out.trio
                    obtain ⟨l0, l1, l2⟩ := HL8.out.trio
                    have m0 := HL8.out.frozen 0; have m1 := HL8.out.frozen 1; have m2 := HL8.out.frozen 2
                    go_wp2
                    go_region
                    go_wp2
                    (try simp only [Exit.inBlock, Exit.then])
                    have HB3 := (((HL8.out.set_ 0 (.int .i64 (fa : Int))).set_ 1 (.int .i64 (ft : Int))).set_ 2 (.int .i64 (fd : Int))).drew
                    refine bodyPost_ret (res_change _ _ _ _ _ _ _ rfl HB3) rfl ?_
                    exact CPost.err Hc.out rfl (((HF8.out.setCell (.inl (Nat.le_succ _)) _).setCell (.inl (Nat.le_succ _)) _).setCell (.inl (Nat.le_succ _)) _).drew
                  · rw [decide_eq_false hh]
                    by_cases heq : (⟨ka, kt, kd⟩ : Win) = ⟨fa, ft, fd⟩
                    · have Hc := Lib.hid (Hgood.out hh heq)
                      injection heq with e1 e2 e3
                      subst e1; subst e2; subst e3
                      clear hh
                      obtain ⟨k0, k1, k2⟩ := HK8.out.trio
                      obtain ⟨l0, l1, l2⟩ := HL8.out.trio
                      have m0 := HL8.out.frozen 0; have m1 := HL8.out.frozen 1; have m2 := HL8.out.frozen 2
                      go_wp2
                      go_region
                      go_wp2
                      (try simp only [Exit.inBlock, Exit.then])
                      have HB3 := (((HL8.out.set_ 0 (.int .i64 (ka : Int))).set_ 1 (.int .i64 (kt : Int))).set_ 2 (.int .i64 (kd : Int))).drew
                      refine bodyPost_ret (res_change _ _ _ _ _ _ _ rfl HB3) rfl ?_
                      exact CPost.ok Hc.out rfl ⟨(((HR8.out.1.far (by show g ≠ w.heap.size + 1; omega) _).far (by show g ≠ w.heap.size + 1; omega) _).far (by show g ≠ w.heap.size + 1; omega) _).drew, HR8.out.2⟩ (((HF8.out.setCell (.inl (Nat.le_succ _)) _).setCell (.inl (Nat.le_succ _)) _).setCell (.inl (Nat.le_succ _)) _).drew
                    · have Hc := Lib.hid (Hbad.out (.inr heq))
                      have hne : ka ≠ fa ∨ (ka = fa ∧ kt ≠ ft) ∨ (ka = fa ∧ kt = ft ∧ kd ≠ fd) := by
                        by_cases e1 : ka = fa
                        · by_cases e2 : kt = ft
                          · exact .inr (.inr ⟨e1, e2, fun e3 => heq (by rw [e1, e2, e3])⟩)
                          · exact .inr (.inl ⟨e1, e2⟩)
                        · exact .inl e1
                      clear hh heq
                      rcases hne with e1 | ⟨e1, e2⟩ | ⟨e1, e2, e3⟩
                      · have hb : ((ka : Int) == (fa : Int)) = false := by rw [beq_eq_false_iff_ne]; omega
                        have gA : w8.cell? ⟨4, 0, none⟩ = some (sentV (es 0)) := (HSV.out _ HF8.out).var 0 (by decide)
                        have gB : (((w8.setCell ⟨w.heap.size + 1, 0, none⟩ (.int .i64 (fa : Int))).setCell ⟨w.heap.size + 1, 1, none⟩ (.int .i64 (ft : Int))).setCell ⟨w.heap.size + 1, 2, none⟩ (.int .i64 (fd : Int))).cell? ⟨4, 0, none⟩ = some (sentV (es 0)) := (HSV.out _ (((HF8.out.setCell (.inl (Nat.le_succ _)) _).setCell (.inl (Nat.le_succ _)) _).setCell (.inl (Nat.le_succ _)) _)).var 0 (by decide)
                        obtain ⟨k0, k1, k2⟩ := HK8.out.trio
                        obtain ⟨l0, l1, l2⟩ := HL8.out.trio
                        have m0 := HL8.out.frozen 0; have m1 := HL8.out.frozen 1; have m2 := HL8.out.frozen 2
                        go_wp2
                        go_region
                        go_wp2
                        (try simp only [Exit.inBlock, Exit.then])
                        have HB3 := (((HL8.out.set_ 0 (.int .i64 (fa : Int))).set_ 1 (.int .i64 (ft : Int))).set_ 2 (.int .i64 (fd : Int))).drew
                        refine bodyPost_ret (res_change _ _ _ _ _ _ _ rfl HB3) rfl ?_
                        exact CPost.err Hc.out rfl (((HF8.out.setCell (.inl (Nat.le_succ _)) _).setCell (.inl (Nat.le_succ _)) _).setCell (.inl (Nat.le_succ _)) _).drew
                      · subst e1
                        have hb : ((kt : Int) == (ft : Int)) = false := by rw [beq_eq_false_iff_ne]; omega
                        have gA : w8.cell? ⟨4, 0, none⟩ = some (sentV (es 0)) := (HSV.out _ HF8.out).var 0 (by decide)
                        have gB : (((w8.setCell ⟨w.heap.size + 1, 0, none⟩ (.int .i64 (ka : Int))).setCell ⟨w.heap.size + 1, 1, none⟩ (.int .i64 (ft : Int))).setCell ⟨w.heap.size + 1, 2, none⟩ (.int .i64 (fd : Int))).cell? ⟨4, 0, none⟩ = some (sentV (es 0)) := (HSV.out _ (((HF8.out.setCell (.inl (Nat.le_succ _)) _).setCell (.inl (Nat.le_succ _)) _).setCell (.inl (Nat.le_succ _)) _)).var 0 (by decide)
                        obtain ⟨k0, k1, k2⟩ := HK8.out.trio
                        obtain ⟨l0, l1, l2⟩ := HL8.out.trio
                        have m0 := HL8.out.frozen 0; have m1 := HL8.out.frozen 1; have m2 := HL8.out.frozen 2
                        go_wp2
                        go_region
                        go_wp2
                        (try simp only [Exit.inBlock, Exit.then])
                        have HB3 := (((HL8.out.set_ 0 (.int .i64 (ka : Int))).set_ 1 (.int .i64 (ft : Int))).set_ 2 (.int .i64 (fd : Int))).drew
                        refine bodyPost_ret (res_change _ _ _ _ _ _ _ rfl HB3) rfl ?_
                        exact CPost.err Hc.out rfl (((HF8.out.setCell (.inl (Nat.le_succ _)) _).setCell (.inl (Nat.le_succ _)) _).setCell (.inl (Nat.le_succ _)) _).drew
                      · subst e1; subst e2
                        have hb : ((kd : Int) == (fd : Int)) = false := by rw [beq_eq_false_iff_ne]; omega
                        have gA : w8.cell? ⟨4, 0, none⟩ = some (sentV (es 0)) := (HSV.out _ HF8.out).var 0 (by decide)
                        have gB : (((w8.setCell ⟨w.heap.size + 1, 0, none⟩ (.int .i64 (ka : Int))).setCell ⟨w.heap.size + 1, 1, none⟩ (.int .i64 (kt : Int))).setCell ⟨w.heap.size + 1, 2, none⟩ (.int .i64 (fd : Int))).cell? ⟨4, 0, none⟩ = some (sentV (es 0)) := (HSV.out _ (((HF8.out.setCell (.inl (Nat.le_succ _)) _).setCell (.inl (Nat.le_succ _)) _).setCell (.inl (Nat.le_succ _)) _)).var 0 (by decide)
                        obtain ⟨k0, k1, k2⟩ := HK8.out.trio
                        obtain ⟨l0, l1, l2⟩ := HL8.out.trio
                        have m0 := HL8.out.frozen 0; have m1 := HL8.out.frozen 1; have m2 := HL8.out.frozen 2
                        go_wp2
                        go_region
                        go_wp2
                        (try simp only [Exit.inBlock, Exit.then])
                        have HB3 := (((HL8.out.set_ 0 (.int .i64 (ka : Int))).set_ 1 (.int .i64 (kt : Int))).set_ 2 (.int .i64 (fd : Int))).drew
                        refine bodyPost_ret (res_change _ _ _ _ _ _ _ rfl HB3) rfl ?_
                        exact CPost.err Hc.out rfl (((HF8.out.setCell (.inl (Nat.le_succ _)) _).setCell (.inl (Nat.le_succ _)) _).setCell (.inl (Nat.le_succ _)) _).drew
        · have hn0 : ((vAt S (q + 1) 1 : Int) == 1) = false := by rw [beq_eq_false_iff_ne]; omega
          have HV1 := Lib.hid hn1
          generalize vAt S (q + 1) 1 = fv at hn0 ⊢
          clear hv hn1
          obtain ⟨w5, hw5⟩ : ∃ w5, w5 = w2.alloc (.cells #[.int .i64 (la : Int), .int .i64 (lt : Int), .int .i64 (ld : Int)] 316) := ⟨_, rfl⟩
          have hz5 : w5.heap.size = w2.heap.size + 1 := by rw [hw5]; simp
          have hw5' : w.heap.size + 2 ≤ w5.heap.size := by omega
          have HK5 := Lib.hid (show Blk w5 w.heap.size 316 #[.int .i64 (la : Int), .int .i64 (lt : Int), .int .i64 (ld : Int)] from by rw [hw5]; exact HK3.out)
          have HL5 := Lib.hid (show Blk w5 (w.heap.size + 1) 316 #[.int .i64 0, .int .i64 0, .int .i64 0] from by rw [hw5]; exact HL3.out)
          have HM5 := Lib.hid (show Blk w5 w2.heap.size 316 #[.int .i64 (la : Int), .int .i64 (lt : Int), .int .i64 (ld : Int)] from by rw [hw5]; exact HM3.out)
          have HF5 := Lib.hid (show Fr (fun k => k = g) w w5 from by rw [hw5]; exact HF3.out)
          have HR5 := Lib.hid (show ReaderAt w5 g xs (q + 2) N from by rw [hw5]; exact HR2.out)
          by_cases hd : ld = 0
          · have Hc := Lib.hid (show chg S ⟨la, lt, ld⟩ q = .err 0 from chg_nowin (by rw [HSl.out]; exact c2) HV.out HV1.out hd)
            subst hd
            have gA : (w2.alloc (.cells #[.int .i64 (la : Int), .int .i64 (lt : Int), .int .i64 0] 316)).cell? ⟨4, 0, none⟩ = some (sentV (es 0)) := (HSV.out _ HF3.out).var 0 (by decide)
            have gB : ((((w2.setCell ⟨w.heap.size + 1, 0, none⟩ (.int .i64 (la : Int))).setCell ⟨w.heap.size + 1, 1, none⟩ (.int .i64 (lt : Int))).setCell ⟨w.heap.size + 1, 2, none⟩ (.int .i64 0)).alloc (.cells #[.int .i64 (la : Int), .int .i64 (lt : Int), .int .i64 0] 316)).cell? ⟨4, 0, none⟩ = some (sentV (es 0)) :=
              (HSV.out _ ((((HF2.out.setCell (.inl (Nat.le_succ _)) _).setCell (.inl (Nat.le_succ _)) _).setCell (.inl (Nat.le_succ _)) _).alloc _)).var 0 (by decide)
            clear k0 k1 k2
            obtain ⟨k0, k1, k2⟩ := HK2.out.trio
            have k2' : w2.cell? ⟨w.heap.size, 2, none⟩ = some (.int .i64 0) := k2
            obtain ⟨l0, l1, l2⟩ := HL2.out.trio
            have m0 := HL2.out.frozen 0; have m1 := HL2.out.frozen 1; have m2 := HL2.out.frozen 2
            obtain ⟨p0, p1, p2⟩ := HK3.out.trio
            have p2' : (w2.alloc (.cells #[.int .i64 (la : Int), .int .i64 (lt : Int), .int .i64 0] 316)).cell? ⟨w.heap.size, 2, none⟩ = some (.int .i64 0) := p2
            have p0' : (w2.alloc (.cells #[.int .i64 (la : Int), .int .i64 (lt : Int), .int .i64 0] 316)).cell? ⟨w.heap.size, 0, none⟩ = some (.int .i64 la) := p0
            have p1' : (w2.alloc (.cells #[.int .i64 (la : Int), .int .i64 (lt : Int), .int .i64 0] 316)).cell? ⟨w.heap.size, 1, none⟩ = some (.int .i64 lt) := p1
            clear hw5 k2 p0 p1 p2
            go_wp2
            go_region
            go_wp2
            (try simp only [Exit.inBlock, Exit.then])
            have HB3 := ((((HL2.out.set_ 0 (.int .i64 (la : Int))).set_ 1 (.int .i64 (lt : Int))).set_ 2 (.int .i64 0)).alloc (.cells #[.int .i64 (la : Int), .int .i64 (lt : Int), .int .i64 0] 316)).drew
            refine bodyPost_ret (res_change _ _ _ _ _ _ _ rfl HB3) rfl ?_
            exact CPost.err Hc.out rfl ((((HF2.out.setCell (.inl (Nat.le_succ _)) _).setCell (.inl (Nat.le_succ _)) _).setCell (.inl (Nat.le_succ _)) _).alloc _).drew
          · have hok : Win.Ok ⟨la, lt, ld⟩ := by
              rcases Hwo.out with e | e
              · injection e with _ _ e3; exact absurd e3 hd
              · exact e
            have Hch := Lib.hid (chg_old (w := ⟨la, lt, ld⟩) (by rw [HSl.out]; exact c2) HV.out HV1.out hd)
            obtain ⟨ok1, ok2, ok3⟩ := hok
            simp only at ok1 ok2 ok3
            have hd0 : ((ld : Int) == 0) = false := by rw [beq_eq_false_iff_ne]; omega
            have Hw5 := Lib.hid hw5
            clear hw5
            go_wp2_with fail
            rw [← Hw5.out]
            clear k0 k1 k2
            by_cases c5 : N < (q + 2) + ld
            · have Hc := Lib.hid (show chg S ⟨la, lt, ld⟩ q = .err 4 from by rw [Hch.out]; exact body_none (by rw [HSl.out]; exact c5))
              refine (get_none g (q + 2) N xs ld _ (HSV.out _ HF5.out) (by omega) HR5.out (by omega) c5).mono ?_
              rintro e w6 ⟨rfl, hb⟩
              have HK6 := Lib.hid (HK5.out.below hb HK5.out.lt)
              have HL6 := Lib.hid (HL5.out.below hb HL5.out.lt)
              have HF6 := Lib.hid (Fr.call HF5.out hb (by omega))
              clear hb
              obtain ⟨k0, k1, k2⟩ := HK6.out.trio
              obtain ⟨l0, l1, l2⟩ := HL6.out.trio
              have m0 := HL6.out.frozen 0; have m1 := HL6.out.frozen 1; have m2 := HL6.out.frozen 2
              go_wp2
              go_region
              go_wp2
              (try simp only [Exit.inBlock, Exit.then])
              have HB3 := (((HL6.out.set_ 0 (.int .i64 (la : Int))).set_ 1 (.int .i64 (lt : Int))).set_ 2 (.int .i64 (ld : Int))).drew
              refine bodyPost_ret (res_change _ _ _ _ _ _ _ rfl HB3) rfl ?_
              exact CPost.err Hc.out rfl ((((HF6.out.setCell (.inl (Nat.le_succ _)) _).setCell (.inl (Nat.le_succ _)) _).setCell (.inl (Nat.le_succ _)) _).drew)
            · refine (get_ok g (q + 2) N xs ld _ HR5.out (by omega) (by omega)).mono ?_
              rintro e w6 ⟨rfl, hr6, hf6⟩
              rw [rd_at (N := N) (by omega), ← HSS.out]
              have hv := vAt_lt S (q + 2) ld
              have HK6 := Lib.hid (hf6.blk HK5.out (by omega))
              have HL6 := Lib.hid (hf6.blk HL5.out (by omega))
              have HM6 := Lib.hid (hf6.blk HM5.out (by have := HM5.out.lt; omega))
              have HF6 := Lib.hid (Fr.trans HF5.out hf6 (fun k _ h => h))
              have HR6 := Lib.hid hr6
              have hw6 : w.heap.size + 2 ≤ w6.heap.size := Nat.le_trans hw5' hf6.size
              obtain ⟨v, hve⟩ : ∃ v, v = vAt S (q + 2) ld := ⟨_, rfl⟩
              rw [← hve] at hv ⊢
              have HVE := Lib.hid hve
              clear hr6 hf6 hve
              have hx2 : v * 2 ^ lt < 18446744073709551616 := (x_hasWlt ok1 ok2 ok3 hv)
              by_cases hX0 : v * 2 ^ lt = 0
              · have hv0 : v = 0 := by
                  rcases Nat.mul_eq_zero.1 hX0 with h | h
                  · exact h
                  · exact absurd h (by have := Nat.two_pow_pos lt; omega)
                have Hc := Lib.hid (show chg S ⟨la, lt, ld⟩ q = .err 0 from by rw [Hch.out]; exact body_bad (by rw [HSl.out]; exact c5) (.inl (by rw [← HVE.out]; exact hX0)))
                subst hv0
                rw [show ((0 : Nat) : Int) = 0 from rfl]
                clear hX0 hx2 hv
                obtain ⟨y0, y1, y2⟩ := HK6.out.trio
                go_wp2_with fail
                refine (mof_some 0 _ (by omega) (HTV.out _ HF6.out)).mono ?_
                rintro e w7 ⟨a0, t0, d0, rfl, hb7⟩
                have HK7 := Lib.hid (HK6.out.below hb7 HK6.out.lt)
                have HL7 := Lib.hid (HL6.out.below hb7 HL6.out.lt)
                have HF7 := Lib.hid (Fr.call HF6.out hb7 (by omega))
                have hw7 : w.heap.size + 2 ≤ w7.heap.size := Nat.le_trans hw6 hb7.size
                have hlt2 : w.heap.size < w7.heap.size := by omega
                have hlt3 : w.heap.size + 1 < w7.heap.size := by omega
                clear hb7 y0 y1 y2
                have gA : (w7.alloc (.cells #[.int .i64 a0, .int .i64 t0, .int .i64 d0] 316)).cell? ⟨4, 0, none⟩ = some (sentV (es 0)) := (HSV.out _ (HF7.out.alloc _)).var 0 (by decide)
                have gB : ((((w7.setCell ⟨w.heap.size + 1, 0, none⟩ (.int .i64 (la : Int))).setCell ⟨w.heap.size + 1, 1, none⟩ (.int .i64 (lt : Int))).setCell ⟨w.heap.size + 1, 2, none⟩ (.int .i64 (ld : Int))).alloc (.cells #[.int .i64 a0, .int .i64 t0, .int .i64 d0] 316)).cell? ⟨4, 0, none⟩ = some (sentV (es 0)) := (HSV.out _ ((((HF7.out.setCell (.inl (Nat.le_succ _)) _).setCell (.inl (Nat.le_succ _)) _).setCell (.inl (Nat.le_succ _)) _).alloc _)).var 0 (by decide)
                obtain ⟨k0, k1, k2⟩ := HK7.out.trio
                obtain ⟨l0, l1, l2⟩ := HL7.out.trio
                have m0 := HL7.out.frozen 0; have m1 := HL7.out.frozen 1; have m2 := HL7.out.frozen 2
                obtain ⟨p0, p1, p2⟩ := (HK7.out.alloc (.cells #[.int .i64 a0, .int .i64 t0, .int .i64 d0] 316)).trio
                go_wp2
                go_region
                go_wp2
                (try simp only [Exit.inBlock, Exit.then])
                have HB3 := ((((HL7.out.set_ 0 (.int .i64 (la : Int))).set_ 1 (.int .i64 (lt : Int))).set_ 2 (.int .i64 (ld : Int))).alloc (.cells #[.int .i64 a0, .int .i64 t0, .int .i64 d0] 316)).drew
                refine bodyPost_ret (res_change _ _ _ _ _ _ _ rfl HB3) rfl ?_
                exact CPost.err Hc.out rfl ((((HF7.out.setCell (.inl (Nat.le_succ _)) _).setCell (.inl (Nat.le_succ _)) _).setCell (.inl (Nat.le_succ _)) _).alloc _).drew
              · obtain ⟨X, hX⟩ : ∃ X, X = v * 2 ^ lt := ⟨_, rfl⟩
                have sh : IntKind.u64.wrap ((v : Int) * 2 ^ lt) = (X : Int) := by rw [u64_shl v lt ld hx2, hX]
                rw [← hX] at hX0 hx2
                have hx0 : ((X : Int) == 0) = false := by rw [beq_eq_false_iff_ne]; omega
                obtain ⟨kw, hkw⟩ : ∃ kw, kw = winOf X := ⟨_, rfl⟩
                have HX := Lib.hid hX; have Hkw := Lib.hid hkw; have HX0 := Lib.hid hX0
                obtain ⟨ka, kt, kd⟩ := kw
                obtain ⟨y0, y1, y2⟩ := HK6.out.trio
                clear hX hkw hv
                go_wp2_with fail
                refine (mof_w X _ Hkw.out _ hx2 hX0 (HTV.out _ HF6.out)).mono ?_
                rintro e w7 ⟨rfl, hb7⟩
                have HK7 := Lib.hid (HK6.out.below hb7 HK6.out.lt)
                have HL7 := Lib.hid (HL6.out.below hb7 HL6.out.lt)
                have HM7 := Lib.hid (HM6.out.below hb7 HM6.out.lt)
                have HR7 := Lib.hid (HR6.out.below hb7 (Nat.le_refl _))
                have HF7 := Lib.hid (Fr.call HF6.out hb7 (by omega))
                have hw7 : w.heap.size + 2 ≤ w7.heap.size := Nat.le_trans hw6 hb7.size
                have hlt2 : w.heap.size < w7.heap.size := by omega
                have hlt3 : w.heap.size + 1 < w7.heap.size := by omega
                have hlt4 : w2.heap.size < w7.heap.size := by have := HM7.out.lt; omega
                clear hb7 y0 y1 y2 hX0
                have Hc := Lib.hid (show chg S ⟨la, lt, ld⟩ q = .ok X ⟨la, lt, ld⟩ ((q + 2) + ld) from by rw [Hch.out, HX.out, HVE.out]; exact body_ok (by rw [HSl.out]; exact c5) (fun h => by rcases h with h | ⟨h, _⟩; exact HX0.out (by rw [HX.out, HVE.out]; exact h); cases h))
                obtain ⟨k0, k1, k2⟩ := HK7.out.trio
                obtain ⟨l0, l1, l2⟩ := HL7.out.trio
                have m0 := HL7.out.frozen 0; have m1 := HL7.out.frozen 1; have m2 := HL7.out.frozen 2
                obtain ⟨p0, p1, p2⟩ := (HK7.out.alloc (.cells #[.int .i64 (ka : Int), .int .i64 (kt : Int), .int .i64 (kd : Int)] 316)).trio
                go_wp2
                go_region
                go_wp2
                (try simp only [Exit.inBlock, Exit.then])
                have HB3 := ((((HL7.out.set_ 0 (.int .i64 (la : Int))).set_ 1 (.int .i64 (lt : Int))).set_ 2 (.int .i64 (ld : Int))).alloc (.cells #[.int .i64 (ka : Int), .int .i64 (kt : Int), .int .i64 (kd : Int)] 316)).drew
                refine bodyPost_ret (res_change _ _ _ _ _ _ _ rfl HB3) rfl ?_
                exact CPost.ok Hc.out rfl ⟨((((HR7.out.1.far (by show g ≠ w.heap.size + 1; omega) _).far (by show g ≠ w.heap.size + 1; omega) _).far (by show g ≠ w.heap.size + 1; omega) _).alloc _).drew, HR7.out.2⟩ ((((HF7.out.setCell (.inl (Nat.le_succ _)) _).setCell (.inl (Nat.le_succ _)) _).setCell (.inl (Nat.le_succ _)) _).alloc _).drew
end Go.Proofs.YthgefobcohlegaaGreatDoor
