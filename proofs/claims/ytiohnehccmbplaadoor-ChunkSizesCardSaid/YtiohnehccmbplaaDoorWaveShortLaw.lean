/- The walk of the law WaveShort: it returns true, whatever numbers are handed over. -/
import Derived.Test.YtiohnehccmbplaaDoorWaved
namespace Go.Proofs.YtiohnehccmbplaaDoor
open Go.RowKit
set_option linter.unusedVariables false

def apL (f s : Int) (n : Nat) : List Int := (List.range n).map fun i : Nat => f + (i : Int) * s
theorem apL_len (f s : Int) (n : Nat) : (apL f s n).length = n := by simp [apL]
theorem apL_getD (f s : Int) (n k : Nat) (h : k < n) : (apL f s n).getD k 0 = f + (k : Int) * s := by
  rw [List.getD_eq_getElem?_getD]; simp [apL, h]
theorem apL_take (f s : Int) (n k : Nat) (h : k < n) : (apL f s n).take (k + 1) = (apL f s n).take k ++ [f + (k : Int) * s] :=
  take_snoc (by simp [apL, h])
theorem apL_steps (f s : Int) (m : Nat) : stepsL (apL f s (m + 2)) = f :: s :: List.replicate m 0 := by
  apply List.ext_getElem?
  intro k
  by_cases hk : k < m + 2
  · rw [stepsL_get _ _ (by rw [apL_len]; exact hk)]
    unfold stepAt
    rcases k with _ | _ | k
    · rw [if_pos rfl, apL_getD _ _ _ _ hk]; simp
    · rw [if_neg (by omega), if_pos rfl, apL_getD _ _ _ _ (by omega), apL_getD _ _ _ _ (by omega)]
      simp; omega
    · rw [if_neg (by omega), if_neg (by omega), apL_getD _ _ _ _ (by omega), apL_getD _ _ _ _ (by omega), apL_getD _ _ _ _ (by omega)]
      have h1 : k + 1 + 1 - 1 = k + 1 := by omega
      have h2 : k + 1 + 1 - 2 = k := by omega
      rw [h1, h2]
      have e1 : ((k + 1 + 1 : Nat) : Int) * s = (k : Int) * s + s + s := by rw [Int.natCast_add, Int.natCast_add, Int.add_mul, Int.add_mul]; simp
      have e2 : ((k + 1 : Nat) : Int) * s = (k : Int) * s + s := by rw [Int.natCast_add, Int.add_mul]; simp
      rw [e1, e2]
      simp only [List.getElem?_cons_succ, List.getElem?_replicate]
      rw [if_pos (by omega)]
      congr 1
      omega
  · rw [List.getElem?_eq_none (by rw [stepsL_len, apL_len]; omega), List.getElem?_eq_none (by simp; omega)]
theorem waves_zero (m : Nat) : (wavesL (List.replicate m 0)).length = m := by
  induction m with
  | zero => rfl
  | succ m ih =>
    have h0 := waveBits_len 0
    have e0 : sizeN 0 = 1 := by decide
    have : wavesL (List.replicate (m + 1) 0) = waveBits 0 ++ wavesL (List.replicate m 0) := by simp [wavesL, List.replicate_succ]
    rw [this, List.length_append, ih]; omega
theorem apL_bits (f s : Int) (m : Nat) : ((ticksBits (apL f s (m + 2))).length : Int) = sizeN f + sizeN s + m := by
  have h1 := waveBits_len f
  have h2 := waveBits_len s
  have h3 := waves_zero m
  unfold ticksBits
  rw [apL_steps]
  have : wavesL (f :: s :: List.replicate m 0) = waveBits f ++ (waveBits s ++ wavesL (List.replicate m 0)) := by simp [wavesL]
  rw [this, List.length_append, List.length_append]; omega

theorem size_mono (a b : Int) (h0 : 0 ≤ a) (h : a ≤ b) : sizeN a ≤ sizeN b ∧ sizeN (-a) ≤ sizeN (-b) ∧ sizeN a ≤ sizeN (-a) := by
  have key : ∀ n : Int, sizeN n = if n = 0 then 1 else if -64 < n ∧ n ≤ 64 then 9 else if -256 < n ∧ n ≤ 256 then 12 else if -2048 < n ∧ n ≤ 2048 then 16 else 68 := by
    intro n
    unfold sizeN ofK
    repeat' split
    all_goals first | rfl | omega
  rw [key a, key b, key (-a), key (-b)]
  refine ⟨?_, ?_, ?_⟩
  all_goals (repeat' split) <;> omega

set_option maxRecDepth 100000 in
set_option maxHeartbeats 4000000 in
theorem waveShort_any (a b f s n : Int) (w : World) : Calls Tryd.prog 3 #[.int .i64 a, .int .i64 b, .int .i64 f, .int .i64 s, .int .i64 n] w fun e w' => e = .returned (.bool true) ∧ Below w.heap.size w w' := by
  by_cases c1 : a < 0
  · go_enter Tryd.func3, Tryd.ntmps3
    go_wp2_with (go_at_call 14; refine (waved_any _).mono ?_; rintro e w1 ⟨rfl, hb1⟩; have hb1 := Lib.hid hb1)
    go_ret
    exact ⟨rfl, hb1.out⟩
  by_cases c2 : b < a
  · go_enter Tryd.func3, Tryd.ntmps3
    go_wp2_with (go_at_call 14; refine (waved_any _).mono ?_; rintro e w1 ⟨rfl, hb1⟩; have hb1 := Lib.hid hb1)
    go_ret
    exact ⟨rfl, hb1.out⟩
  by_cases c3 : 1125899906842624 < b
  · go_enter Tryd.func3, Tryd.ntmps3
    go_wp2_with (go_at_call 14; refine (waved_any _).mono ?_; rintro e w1 ⟨rfl, hb1⟩; have hb1 := Lib.hid hb1)
    go_ret
    exact ⟨rfl, hb1.out⟩
  by_cases c4 : n < 2
  · go_enter Tryd.func3, Tryd.ntmps3
    go_wp2_with (go_at_call 14; refine (waved_any _).mono ?_; rintro e w1 ⟨rfl, hb1⟩; have hb1 := Lib.hid hb1)
    go_ret
    exact ⟨rfl, hb1.out⟩
  by_cases c5 : 60 < n
  · go_enter Tryd.func3, Tryd.ntmps3
    go_wp2_with (go_at_call 14; refine (waved_any _).mono ?_; rintro e w1 ⟨rfl, hb1⟩; have hb1 := Lib.hid hb1)
    go_ret
    exact ⟨rfl, hb1.out⟩
  have k1 : 0 ≤ a := by omega
  have k2 : a ≤ b := by omega
  have k3 : b ≤ 1125899906842624 := by omega
  have k4 : 2 ≤ n := by omega
  have k5 : n ≤ 60 := by omega
  clear c1 c2 c3 c4 c5
  obtain ⟨s1, s2, s3⟩ := size_mono a b k1 k2
  have s4 := (sizeN_bd b).2
  by_cases d1 : f < -1073741824
  · go_enter Tryd.func3, Tryd.ntmps3
    go_wp2_with (first | (go_at_call 14; refine (waved_any _).mono ?_; rintro e w1 ⟨rfl, hb⟩; have hB := Lib.hid hb; clear hb) | (go_at_call 15; refine (size_any _ _).mono ?_; rintro e w1 ⟨rfl, hb⟩; have hB := Lib.hid (Below.call hB.out hb hB.out.size); clear hb))
    go_ret
    exact ⟨rfl, hB.out⟩
  by_cases d2 : 1073741824 < f
  · go_enter Tryd.func3, Tryd.ntmps3
    go_wp2_with (first | (go_at_call 14; refine (waved_any _).mono ?_; rintro e w1 ⟨rfl, hb⟩; have hB := Lib.hid hb; clear hb) | (go_at_call 15; refine (size_any _ _).mono ?_; rintro e w1 ⟨rfl, hb⟩; have hB := Lib.hid (Below.call hB.out hb hB.out.size); clear hb))
    go_ret
    exact ⟨rfl, hB.out⟩
  by_cases d3 : s < -1073741824
  · go_enter Tryd.func3, Tryd.ntmps3
    go_wp2_with (first | (go_at_call 14; refine (waved_any _).mono ?_; rintro e w1 ⟨rfl, hb⟩; have hB := Lib.hid hb; clear hb) | (go_at_call 15; refine (size_any _ _).mono ?_; rintro e w1 ⟨rfl, hb⟩; have hB := Lib.hid (Below.call hB.out hb hB.out.size); clear hb))
    go_ret
    exact ⟨rfl, hB.out⟩
  by_cases d4 : 1073741824 < s
  · go_enter Tryd.func3, Tryd.ntmps3
    go_wp2_with (first | (go_at_call 14; refine (waved_any _).mono ?_; rintro e w1 ⟨rfl, hb⟩; have hB := Lib.hid hb; clear hb) | (go_at_call 15; refine (size_any _ _).mono ?_; rintro e w1 ⟨rfl, hb⟩; have hB := Lib.hid (Below.call hB.out hb hB.out.size); clear hb))
    go_ret
    exact ⟨rfl, hB.out⟩
  have f1 : -1073741824 ≤ f := by omega
  have f2 : f ≤ 1073741824 := by omega
  have g1 : -1073741824 ≤ s := by omega
  have g2 : s ≤ 1073741824 := by omega
  clear d1 d2 d3 d4
  obtain ⟨n, rfl⟩ := Int.eq_ofNat_of_zero_le (show 0 ≤ n by omega)
  obtain ⟨i0, hi, hz0, hz1, hz2⟩ := info_parts infoInt
  have Hi := Lib.hid hi; have Hz0 := Lib.hid hz0; have Hz1 := Lib.hid hz1; have Hz2 := Lib.hid hz2
  clear hi hz0 hz1 hz2
  have hmul : ∀ k : Nat, k ≤ 60 → -64424509440 ≤ (k : Int) * s ∧ (k : Int) * s ≤ 64424509440 := by
    intro k hk
    have h1 : (k : Int) * s ≤ (k : Int) * 1073741824 := Int.mul_le_mul_of_nonneg_left g2 (by omega)
    have h2 : (k : Int) * -1073741824 ≤ (k : Int) * s := Int.mul_le_mul_of_nonneg_left g1 (by omega)
    omega
  have Hmul := Lib.hid hmul; clear hmul
  go_enter Tryd.func3, Tryd.ntmps3
  go_wp2_with (first | (go_at_call 14; refine (waved_any _).mono ?_; rintro e w1 ⟨rfl, hb⟩; have hB := Lib.hid hb; clear hb) | (go_at_call 15; refine (size_any _ _).mono ?_; rintro e w1 ⟨rfl, hb⟩; have hB := Lib.hid (Below.call hB.out hb hB.out.size); clear hb))
  have hBs := hB.out.size
  go_loopw [12, 13] (fun v i wr => ∃ k : Nat, k ≤ n ∧ i = .int .i64 k ∧ wr.ownsRow w.heap.size 3 1 v k (((apL f s n).take k).map (Value.int .i64)) ∧ Below w.heap.size w wr) (fun _ i _ => n - (intOf i).toNat)
  case atStart => exact ⟨0, Nat.zero_le _, rfl, World.ownsRow_nil _ _ _ _, hB.out⟩
  case round =>
    obtain ⟨k, hk, rfl, hown, hbel⟩ := hrel
    have Hown := Lib.hid hown; have Hbel := Lib.hid hbel
    clear hown hbel
    by_cases hkn : k < n
    · obtain ⟨m1, m2⟩ := Hmul.out k (by omega)
      have htk := Lib.hid (apL_take f s n k hkn)
      have hk63 : k + 1 ≤ maxLen := by unfold maxLen; omega
      have hk8 : (k + 1) * 8 ≤ 140737488355328 := by omega
      have hbs : w.heap.size ≤ wr.heap.size := Hbel.out.size
      have hsz : w.heap.size ≤ (wr.alloc (.cells #[.int .i64 (f + (k : Int) * s)] 3)).heap.size := by simp; omega
      have Hsz := Lib.hid hsz; clear hsz
      go_wp2_with (at_builtin; refine wpList_append_rd _ rfl (.tmp 86) (.tmp 92) _ rfl w.heap.size 3 i0 (.int .i64 0) 1 8 Tryd.underlying24 Hi.out Hz0.out Hz1.out Hz2.out rfl (by decide) _ k _ rfl (Hown.out.alloc _) _ _ 1 1 [.int .i64 (f + (k : Int) * s)] rfl (Rd.one wr 3 (.int .i64 (f + (k : Int) * s))) (int_one [f + (k : Int) * s]) hk63 hk8 Hsz.out ?_; intro v' wa hown' hgr hat; have Hown' := Lib.hid hown'; have Hba := Lib.hid (Below.grown (Below.alloc Hbel.out hbs _) hgr Hsz.out (fun q hq => (own_lt Hown.out q hq).1)); clear hown' hgr hat)
      go_roundw
      case rel => exact ⟨k + 1, by omega, by go_num, by rw [htk.out, List.map_append]; exact Hown'.out, Hba.out⟩
      case measure => simp [intOf]; omega
    · obtain rfl : k = n := by omega
      have e : (apL f s k).take k = apL f s k := List.take_of_length_le (by rw [apL_len]; exact Nat.le_refl _)
      have hown2 := Hown.out
      rw [e] at hown2
      obtain ⟨A, c, rfl, hc, _, hrd⟩ := own_form hown2
      have Hown2 := Lib.hid hown2; have Hrd := Lib.hid hrd
      clear hown2 hrd e
      go_wp2_with fail
      refine (new_any _).mono ?_
      rintro e w2 ⟨rfl, hw2⟩
      have hr2 : RowAt w2 wr.heap.size (.slice none 0 0) [] := by rw [hw2]; exact new_row wr
      have hb2 : Below wr.heap.size wr w2 := by rw [hw2]; exact Below.alloc (Below.refl _ _) (Nat.le_refl _) _
      have hrd2 : Rd w2 w2.heap.size 1 A k ((apL f s k).map (Value.int .i64)) := (Hrd.out.below hb2).more hb2.size
      have hts : ∀ t ∈ apL f s k, Tick t := by
        intro t ht
        obtain ⟨i, hi, rfl⟩ := List.mem_map.1 ht
        have := Hmul.out i (by have := List.mem_range.1 hi; omega)
        unfold Tick; omega
      obtain ⟨m, hm⟩ : ∃ m, k = m + 2 := ⟨k - 2, by omega⟩
      have hbits : ((ticksBits (apL f s k)).length : Int) = sizeN f + sizeN s + k - 2 := by
        rw [hm, apL_bits]; omega
      have sf := sizeN_bd f
      have ss := sizeN_bd s
      have hroom : ([] : List Bool).length + (ticksBits (apL f s k)).length ≤ 1048576 := by simp only [List.length_nil]; omega
      have hk100 : k ≤ 100000 := by omega
      have Hr2 := Lib.hid hr2; have Hb2 := Lib.hid hb2; have Hrd2 := Lib.hid hrd2; have Hts := Lib.hid hts; have Hbits := Lib.hid hbits
      clear hw2 hr2 hb2 hrd2 hts hm hbits
      go_wp2_with fail
      refine (ticks_ok _ _ [] A k c (apL f s k) w2 Hr2.out Hrd2.out hk100 Hts.out hroom).mono ?_
      rintro e w3 ⟨rfl, hst⟩
      have hb3 : Below w.heap.size w w3 := Below.call Hbel.out (Below.trans Hb2.out (hst.below Hr2.out (Nat.le_refl _))) Hbel.out.size
      obtain ⟨bv3, hr3, _, _⟩ := hst
      have Hr3 := Lib.hid hr3; have hB := Lib.hid hb3
      clear hr3 hb3
      go_wp2_with fail
      refine (len_any _ _ _ w3 Hr3.out).mono ?_
      rintro e w' ⟨rfl, rfl⟩
      have hlen3 : ((([] : List Bool) ++ ticksBits (apL f s k)).length : Int) = sizeN f + sizeN s + k - 2 := by rw [List.nil_append]; exact Hbits.out
      rw [hlen3]
      clear hlen3
      go_wp2_with (go_at_call 15; refine (size_any _ _).mono ?_; rintro e w1 ⟨rfl, hb⟩; have hB := Lib.hid (Below.call hB.out hb hB.out.size); clear hb)
      go_ret
      exact ⟨rfl, hB.out⟩
end Go.Proofs.YtiohnehccmbplaaDoor
