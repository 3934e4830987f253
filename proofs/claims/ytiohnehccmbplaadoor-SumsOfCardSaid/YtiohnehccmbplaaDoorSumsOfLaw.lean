/- The walk of the law SumsOf: it returns true, whatever points and steps are handed over. -/
import Derived.Test.YtiohnehccmbplaaDoorSteps
import Derived.Deep.RegionHeld3
namespace Go.Proofs.YtiohnehccmbplaaDoor
open Go.RowKit
set_option linter.unusedVariables false

theorem Rd.cutP {w : World} {B n : Nat} {A : Option Addr} {ps : List (Int × Int)} (h : Rd w B 2 A n (ptsC ps)) {k cap : Nat} (hk : k ≤ n) (hc : n ≤ cap) : Rd w B 2 (if cap = k then A else A.map (·.add (k * 2))) (n - k) (ptsC (ps.drop k)) := by
  have := h.cut hk hc
  rwa [ptsC, flat_drop _ 2 (fun _ => rfl)] at this
theorem Rd.takeP {w : World} {B n : Nat} {A : Option Addr} {ps : List (Int × Int)} (h : Rd w B 2 A n (ptsC ps)) {k : Nat} (hk : k ≤ n) : Rd w B 2 A k (ptsC (ps.take k)) := by
  have := h.take hk
  rwa [ptsC, flat_take _ 2 (fun _ => rfl)] at this
theorem i64_own (n : Int) (h : -9223372036854775808 ≤ n ∧ n ≤ 9223372036854775807) : IntKind.i64.wrap n = n := by rw [IntKind.wrap_i64]; omega
theorem code_bound : (decide ((((1 : Nat) : Int) + 1) = 2) && decide ((-1 : Int) = -1)) = true := by decide
theorem ofS_split (ps : List (Int × Int)) (k : Nat) : addS (ofS (bitsOf (ps.take k))) (ofS (bitsOf (ps.drop k))) = ofS (bitsOf ps) := by
  rw [← ofS_append, ← bitsOf_append, List.take_append_drop]

set_option maxRecDepth 100000 in
set_option maxHeartbeats 8000000 in
theorem sumsOf_law {es : Nat → Addr} {B : Nat} (A : Option Addr) (m c : Nat) (ps : List (Int × Int)) (f s n cut : Int) (w : World) (hS : Sents es B w) (hB0 : B ≤ w.heap.size) (hA : Rd w w.heap.size 2 A m (ptsC ps)) (hm : m ≤ 140737488351232) (hmc : m ≤ c) (hps : ∀ p ∈ ps, Word p.2) :
    Calls Tryd.prog 5 #[.slice A m c, .int .i64 f, .int .i64 s, .int .i64 n, .int .i64 cut] w fun e w' => e = .returned (.bool true) ∧ Below w.heap.size w w' := by
  have hlen : ps.length = m := by have := hA.1; rw [flat_len _ 2 (fun _ => rfl)] at this; omega
  by_cases c1 : 100 < m
  · have c1' : (100 : Int) < m := by omega
    clear hA hlen hps hS
    go_enter Tryd.func5, Tryd.ntmps5
    go_wp2_with (go_at_call 23; refine (summed_any _).mono ?_; rintro e w1 ⟨rfl, hb1⟩; have hb1 := Lib.hid hb1)
    go_ret
    exact ⟨rfl, hb1.out⟩
  by_cases c2 : cut < 0
  · have c1' : (m : Int) ≤ 100 := by omega
    clear hA hlen hps hS
    go_enter Tryd.func5, Tryd.ntmps5
    go_wp2_with (go_at_call 23; refine (summed_any _).mono ?_; rintro e w1 ⟨rfl, hb1⟩; have hb1 := Lib.hid hb1)
    go_ret
    exact ⟨rfl, hb1.out⟩
  by_cases c3 : (m : Int) < cut
  · have c1' : (m : Int) ≤ 100 := by omega
    clear hA hlen hps hS
    go_enter Tryd.func5, Tryd.ntmps5
    go_wp2_with (go_at_call 23; refine (summed_any _).mono ?_; rintro e w1 ⟨rfl, hb1⟩; have hb1 := Lib.hid hb1)
    go_ret
    exact ⟨rfl, hb1.out⟩
  have c1' : (m : Int) ≤ 100 := by omega
  obtain ⟨k, rfl⟩ := Int.eq_ofNat_of_zero_le (show 0 ≤ cut by omega)
  have hk : k ≤ m := by omega
  have hm5 : m ≤ 100000 := by omega
  have q0 : (0 : Int) ≤ (k : Int) := by omega
  have q1 : (k : Int) ≤ (c : Int) := by omega
  have q2 : (k : Int) ≤ (m : Int) := by omega
  have hk5 : k ≤ 100000 := by omega
  have hmk5 : m - k ≤ 100000 := by omega
  have hsp := ofS_split ps k
  have hc1 : 0 ≤ (ofS (bitsOf (ps.take k))).c ∧ (ofS (bitsOf (ps.take k))).c ≤ 1000000 := by rw [ofS_c, bitsOf_length, List.length_take]; omega
  have hc2 : 0 ≤ (ofS (bitsOf (ps.drop k))).c ∧ (ofS (bitsOf (ps.drop k))).c ≤ 1000000 := by rw [ofS_c, bitsOf_length, List.length_drop]; omega
  generalize hs0 : ofS (bitsOf ps) = s0 at hsp
  generalize hs1 : ofS (bitsOf (ps.take k)) = s1 at hsp hc1
  generalize hs2 : ofS (bitsOf (ps.drop k)) = s2 at hsp hc2
  obtain ⟨hc1a, hc1b⟩ := hc1
  obtain ⟨hc2a, hc2b⟩ := hc2
  obtain ⟨A3, hA3, hrd3⟩ : ∃ A3, (if c = k then A else Option.map (fun x => x.add (k * 2)) A) = A3 ∧ ∀ W, Below w.heap.size w W → Rd W W.heap.size 2 A3 (m - k) (ptsC (ps.drop k)) :=
    ⟨_, rfl, fun W hb => ((hA.below hb).more hb.size).cutP hk hmc⟩
  have Hrd3 := Lib.hid hrd3; have HA3 := Lib.hid hA3; clear hrd3 hA3
  have HS := Lib.hid hS; have HA := Lib.hid hA; have Hlen := Lib.hid hlen; have Hps := Lib.hid hps; have Hsp := Lib.hid hsp; have Hs0 := Lib.hid hs0; have Hs1 := Lib.hid hs1; have Hs2 := Lib.hid hs2
  clear hS hA hlen hps hsp hs0 hs1 hs2 c1 c2 c3
  go_enter Tryd.func5, Tryd.ntmps5
  go_wp2_with fail
  refine (summed_any _).mono ?_
  rintro e w1 ⟨rfl, hb⟩
  have hB1 := Lib.hid hb; clear hb
  go_wp2_with fail
  refine (own_any A m c ps _ ((HA.out.below hB1.out).more hB1.out.size) hm5).mono ?_
  rintro e w2 ⟨v2, rfl, hown2, hb⟩
  obtain ⟨A2, cc2, rfl, _, _, hrd2⟩ := own_form hown2
  have hB2 := Lib.hid (Below.call hB1.out hb hB1.out.size)
  have Hrd2 := Lib.hid hrd2
  clear hb hown2 hrd2
  go_wp2_with fail
  refine (of_any A2 m cc2 ps w2 Hrd2.out hm5).mono ?_
  rintro e w3 ⟨rfl, hb⟩
  rw [Hs0.out]
  have hB3 := Lib.hid (Below.call hB2.out hb hB2.out.size)
  clear hb
  have hz0 : w.heap.size ≤ w3.heap.size := hB3.out.size
  have hBx : Below w.heap.size w (w3.alloc (.cells #[.int .i64 s0.c, .int .u64 s0.lo, .int .u64 s0.hi, .int .u64 s0.la, .int .u64 s0.to] 44)).drew := (Below.alloc hB3.out hz0 _).drew
  have hS0 : (w3.alloc (.cells #[.int .i64 s0.c, .int .u64 s0.lo, .int .u64 s0.hi, .int .u64 s0.la, .int .u64 s0.to] 44)).drew.cell? ⟨w3.heap.size, 0, none⟩ = some (.int .i64 s0.c) ∧ (w3.alloc (.cells #[.int .i64 s0.c, .int .u64 s0.lo, .int .u64 s0.hi, .int .u64 s0.la, .int .u64 s0.to] 44)).drew.cell? ⟨w3.heap.size, 1, none⟩ = some (.int .u64 s0.lo) ∧
      (w3.alloc (.cells #[.int .i64 s0.c, .int .u64 s0.lo, .int .u64 s0.hi, .int .u64 s0.la, .int .u64 s0.to] 44)).drew.cell? ⟨w3.heap.size, 2, none⟩ = some (.int .u64 s0.hi) ∧ (w3.alloc (.cells #[.int .i64 s0.c, .int .u64 s0.lo, .int .u64 s0.hi, .int .u64 s0.la, .int .u64 s0.to] 44)).drew.cell? ⟨w3.heap.size, 3, none⟩ = some (.int .u64 s0.la) ∧ (w3.alloc (.cells #[.int .i64 s0.c, .int .u64 s0.lo, .int .u64 s0.hi, .int .u64 s0.la, .int .u64 s0.to] 44)).drew.cell? ⟨w3.heap.size, 4, none⟩ = some (.int .u64 s0.to) :=
    (Blk.new w3 44 (smArr s0)).drew.sums.1
  have hB := Lib.hid hBx; have HS0 := Lib.hid hS0
  clear hBx hS0
  go_wp2_with fail
  have hA3 := HA3.out
  go_region_held3 (fun w' => w'.cell? ⟨w3.heap.size, 0, none⟩ = some (.int .i64 s0.c) ∧ w'.cell? ⟨w3.heap.size, 1, none⟩ = some (.int .u64 s0.lo) ∧ w'.cell? ⟨w3.heap.size, 2, none⟩ = some (.int .u64 s0.hi) ∧ w'.cell? ⟨w3.heap.size, 3, none⟩ = some (.int .u64 s0.la) ∧ w'.cell? ⟨w3.heap.size, 4, none⟩ = some (.int .u64 s0.to))
    (first
      | with_reducible exact HS0.out
      | (with_reducible refine keep5 hb8.out ?_ ?_ ?_ ?_ ?_ (by assumption) <;> first | (simp; done) | (simp; omega))
      | (with_reducible refine keep5 hb7.out ?_ ?_ ?_ ?_ ?_ (by assumption) <;> first | (simp; done) | (simp; omega))
      | (with_reducible refine keep5 hb6.out ?_ ?_ ?_ ?_ ?_ (by assumption) <;> first | (simp; done) | (simp; omega))
      | (with_reducible refine keep5 hb5.out ?_ ?_ ?_ ?_ ?_ (by assumption) <;> first | (simp; done) | (simp; omega))
      | (with_reducible refine keep5 hb4.out ?_ ?_ ?_ ?_ ?_ (by assumption) <;> first | (simp; done) | (simp; omega)))
    (first
      | (go_at_call 27; refine (sumOf_any A m c ps _ ((HA.out.below hB.out).more hB.out.size) hm5 Hps.out).mono ?_; rintro e w4 ⟨rfl, hb4⟩; rw [Hs0.out]; have hz4 := hb4.size; simp only [World.size_drew, World.size_alloc] at hz4; have hB := Lib.hid (Below.call hB.out hb4 hB.out.size); have hb4 := Lib.hid hb4)
      | (go_at_call 26; refine (same_any s0 _).mono ?_; rintro e w5 ⟨rfl, hb5⟩; have hz5 := hb5.size; have hB := Lib.hid (Below.call hB.out hb5 hB.out.size); have hb5 := Lib.hid hb5)
      | (go_at_call 24; with_reducible refine (of_any A k c (ps.take k) _ (((HA.out.below hB.out).more hB.out.size).takeP hk) hk5).mono ?_; rintro e w6 ⟨rfl, hb6⟩; rw [Hs1.out]; have hz6 := hb6.size; have hB := Lib.hid (Below.call hB.out hb6 hB.out.size); have hb6 := Lib.hid hb6)
      | (go_at_call 24; refine (of_any A3 (m - k) (c - k) (ps.drop k) _ (Hrd3.out _ hB.out) hmk5).mono ?_; rintro e w7 ⟨rfl, hb7⟩; rw [Hs2.out]; have hz7 := hb7.size; have hB := Lib.hid (Below.call hB.out hb7 hB.out.size); have hb7 := Lib.hid hb7)
      | (go_at_call 28; refine (add_any s1 s2 _ hc1a hc1b hc2a hc2b).mono ?_; rintro e w8 ⟨rfl, hb8⟩; rw [Hsp.out]; have hz8 := hb8.size; have hB := Lib.hid (Below.call hB.out hb8 hB.out.size); have hb8 := Lib.hid hb8))
  clear hA3
  go_wp2_with fail
  refine (own_any A m c ps _ ((HA.out.below hB.out).more hB.out.size) hm5).mono ?_
  rintro e w9 ⟨v9, rfl, hown9, hb⟩
  obtain ⟨A9, c9, rfl, _, _, hrd9⟩ := own_form hown9
  have hB9 := Lib.hid (Below.call hB.out hb hB.out.size)
  have Hrd9 := Lib.hid hrd9
  clear hB hb hown9 hrd9
  by_cases hok : StepsOk f s n
  · obtain ⟨N, rfl⟩ := Int.eq_ofNat_of_zero_le hok.2.2.1
    go_wp2_with fail
    refine (steps_ok A9 m c9 ps f s N _ Hrd9.out hm5 hok).mono ?_
    rintro e w10 ⟨v10, rfl, hown10, hb⟩
    obtain ⟨A10, c10, rfl, _, _, hrd10⟩ := own_form hown10
    have hB10 := Lib.hid (Below.call hB9.out hb hB9.out.size)
    have Hrd10 := Lib.hid hrd10
    obtain ⟨s1', s2', n1', n2', f1', f2'⟩ := hok
    clear hb hown10 hrd10
    go_wp2
    go_loopw [15] (fun i wr => ∃ k1 : Nat, k1 ≤ N ∧ i = .int .i64 k1 ∧ Below w10.heap.size w10 wr) (fun i _ => N - (intOf i).toNat)
    case atStart => exact ⟨0, Nat.zero_le _, rfl, Below.refl _ _⟩
    case round =>
      obtain ⟨k1, hk1, rfl, hbel⟩ := hrel
      by_cases hkn : k1 < N
      · obtain ⟨m1, m2⟩ := mul_bd (k := (k1 : Int)) (s := s) (by omega) (by omega) s1' s2'
        obtain ⟨bb, off, y, hAe, had, hy, e0, e1, e2, e3, e4⟩ := Hrd10.out.at5 hkn
        subst hAe
        have hyy : stepS ps f s k1 = y := Option.some.inj ((stepsS_get ps f s N k1 hkn).symm.trans hy)
        have hyq : ofS (bitsOf (betL (f + (k1 : Int) * s) (f + (k1 : Int) * s + s - 1) ps)) = y := hyy
        have hbl1 : (betL (f + (k1 : Int) * s) (f + (k1 : Int) * s + s - 1) ps).length ≤ 100000 := by
          have := betL_le (f + (k1 : Int) * s) (f + (k1 : Int) * s + s - 1) ps
          rw [Hlen.out] at this; omega
        have hS0 : wr.drew.cell? ⟨bb, off + k1 * 5, none⟩ = some (.int .i64 y.c) ∧ wr.drew.cell? ⟨bb, off + k1 * 5 + 1, none⟩ = some (.int .u64 y.lo) ∧ wr.drew.cell? ⟨bb, off + k1 * 5 + 2, none⟩ = some (.int .u64 y.hi) ∧ wr.drew.cell? ⟨bb, off + k1 * 5 + 3, none⟩ = some (.int .u64 y.la) ∧ wr.drew.cell? ⟨bb, off + k1 * 5 + 4, none⟩ = some (.int .u64 y.to) :=
          ⟨(hbel.cell (p := ⟨bb, off + k1 * 5, none⟩) had).trans e0, (hbel.cell (p := ⟨bb, off + k1 * 5 + 1, none⟩) had).trans e1, (hbel.cell (p := ⟨bb, off + k1 * 5 + 2, none⟩) had).trans e2, (hbel.cell (p := ⟨bb, off + k1 * 5 + 3, none⟩) had).trans e3, (hbel.cell (p := ⟨bb, off + k1 * 5 + 4, none⟩) had).trans e4⟩
        have Hw1 := Lib.hid (i64_own (f + (k1 : Int) * s + s) (by omega))
        have Hw2 := Lib.hid (i64_own (f + (k1 : Int) * s + s - 1) (by omega))
        have hz : bb < wr.heap.size := Nat.lt_of_lt_of_le had hbel.size
        have hC := Lib.hid (Below.drew hbel)
        have HS1 := Lib.hid hS0; have Hyq := Lib.hid hyq
        clear hbel hS0 e0 e1 e2 e3 e4 hyy hy hyq
        go_wp2_with fail
        go_region_held3 (fun w' => w'.cell? ⟨bb, off + k1 * 5, none⟩ = some (.int .i64 y.c) ∧ w'.cell? ⟨bb, off + k1 * 5 + 1, none⟩ = some (.int .u64 y.lo) ∧ w'.cell? ⟨bb, off + k1 * 5 + 2, none⟩ = some (.int .u64 y.hi) ∧ w'.cell? ⟨bb, off + k1 * 5 + 3, none⟩ = some (.int .u64 y.la) ∧ w'.cell? ⟨bb, off + k1 * 5 + 4, none⟩ = some (.int .u64 y.to))
          (first
            | with_reducible exact HS1.out
            | (with_reducible refine keep5 hb13.out ?_ ?_ ?_ ?_ ?_ (by assumption) <;> first | (simp; done) | (simp; omega))
            | (with_reducible refine keep5 hb12.out ?_ ?_ ?_ ?_ ?_ (by assumption) <;> first | (simp; done) | (simp; omega))
            | (with_reducible refine keep5 hb11.out ?_ ?_ ?_ ?_ ?_ (by assumption) <;> first | (simp; done) | (simp; omega)))
          (first
            | (go_at_call 31; rw [Hw1.out, Hw2.out]; refine (betweenOf_any A m c ps _ _ _ ((HA.out.below (Below.call hB10.out hC.out hB10.out.size)).more (Below.call hB10.out hC.out hB10.out.size).size) hm5).mono ?_; rintro e w11 ⟨v11, rfl, hown11, hb11⟩; obtain ⟨A11, c11, rfl, _, _, hrd11⟩ := own_form hown11; have Hrd11 := Lib.hid hrd11; have hz11 := hb11.size; simp only [World.size_drew] at hz11; have hC := Lib.hid (Below.call hC.out hb11 hC.out.size); have hb11 := Lib.hid hb11; clear hown11 hrd11)
            | (go_at_call 27; refine (sumOf_any A11 _ c11 _ _ Hrd11.out hbl1 (fun p hp => Hps.out p (betL_mem hp))).mono ?_; rintro e w12 ⟨rfl, hb12⟩; rw [Hyq.out]; have hz12 := hb12.size; have hC := Lib.hid (Below.call hC.out hb12 hC.out.size); have hb12 := Lib.hid hb12)
            | (go_at_call 26; refine (same_any y _).mono ?_; rintro e w13 ⟨rfl, hb13⟩; have hz13 := hb13.size; have hC := Lib.hid (Below.call hC.out hb13 hC.out.size); have hb13 := Lib.hid hb13))
        go_wp2
        go_roundw
        case rel => exact ⟨k1 + 1, by omega, by go_num, hC.out⟩
        case measure => simp [intOf]; omega
      · obtain rfl : k1 = N := by omega
        have hB := Lib.hid (Below.call hB10.out hbel hB10.out.size)
        clear hbel
        go_wp2
        go_ret
        exact ⟨rfl, hB.out⟩
  · have hbad : s < 1 ∨ 100000 < s ∨ n < 0 ∨ 120 < n ∨ f < -1099511627776 ∨ 1099511627776 < f := by unfold StepsOk at hok; omega
    clear hok
    go_wp2_with fail
    refine (steps_bad A9 m c9 f s n _ (HS.out.below hB9.out hB0) (Nat.le_trans hB0 hB9.out.size) hbad).mono ?_
    rintro e w10 ⟨rfl, hb⟩
    have hB := Lib.hid (Below.call hB9.out hb hB9.out.size)
    clear hb
    by_cases h1 : s < 1
    · go_wp2_with (go_at_call 30; refine (coded3_any _ _ _ 2 _ (HS.out.below hB.out hB0) (Nat.le_trans hB0 hB.out.size) (ErrIs.sent (HS.out.below hB.out hB0) (k := 1) (by omega))).mono ?_; rintro e w11 ⟨rfl, hb⟩; rw [code_bound]; have hB := Lib.hid (Below.call hB.out hb hB.out.size); clear hb)
      go_ret
      exact ⟨rfl, hB.out⟩
    by_cases h2 : 100000 < s
    · go_wp2_with (go_at_call 30; refine (coded3_any _ _ _ 2 _ (HS.out.below hB.out hB0) (Nat.le_trans hB0 hB.out.size) (ErrIs.sent (HS.out.below hB.out hB0) (k := 1) (by omega))).mono ?_; rintro e w11 ⟨rfl, hb⟩; rw [code_bound]; have hB := Lib.hid (Below.call hB.out hb hB.out.size); clear hb)
      go_ret
      exact ⟨rfl, hB.out⟩
    by_cases h3 : n < 0
    · go_wp2_with (go_at_call 30; refine (coded3_any _ _ _ 2 _ (HS.out.below hB.out hB0) (Nat.le_trans hB0 hB.out.size) (ErrIs.sent (HS.out.below hB.out hB0) (k := 1) (by omega))).mono ?_; rintro e w11 ⟨rfl, hb⟩; rw [code_bound]; have hB := Lib.hid (Below.call hB.out hb hB.out.size); clear hb)
      go_ret
      exact ⟨rfl, hB.out⟩
    by_cases h4 : 120 < n
    · go_wp2_with (go_at_call 30; refine (coded3_any _ _ _ 2 _ (HS.out.below hB.out hB0) (Nat.le_trans hB0 hB.out.size) (ErrIs.sent (HS.out.below hB.out hB0) (k := 1) (by omega))).mono ?_; rintro e w11 ⟨rfl, hb⟩; rw [code_bound]; have hB := Lib.hid (Below.call hB.out hb hB.out.size); clear hb)
      go_ret
      exact ⟨rfl, hB.out⟩
    by_cases h5 : f < -1099511627776
    · go_wp2_with (go_at_call 30; refine (coded3_any _ _ _ 2 _ (HS.out.below hB.out hB0) (Nat.le_trans hB0 hB.out.size) (ErrIs.sent (HS.out.below hB.out hB0) (k := 1) (by omega))).mono ?_; rintro e w11 ⟨rfl, hb⟩; rw [code_bound]; have hB := Lib.hid (Below.call hB.out hb hB.out.size); clear hb)
      go_ret
      exact ⟨rfl, hB.out⟩
    by_cases h6 : 1099511627776 < f
    · go_wp2_with (go_at_call 30; refine (coded3_any _ _ _ 2 _ (HS.out.below hB.out hB0) (Nat.le_trans hB0 hB.out.size) (ErrIs.sent (HS.out.below hB.out hB0) (k := 1) (by omega))).mono ?_; rintro e w11 ⟨rfl, hb⟩; rw [code_bound]; have hB := Lib.hid (Below.call hB.out hb hB.out.size); clear hb)
      go_ret
      exact ⟨rfl, hB.out⟩
    omega
end Go.Proofs.YtiohnehccmbplaaDoor
