/- wave.Ticks by a contract: right ticks, where there is room: they are put. -/
import Derived.Test.YtfkklcmepcocoaaGreatDoorTicks
namespace Go.Proofs.YtfkklcmepcocoaaGreatDoor
open Go.RowKit
set_option linter.unusedVariables false

def wavesL (l : List Int) : List Bool := l.flatMap waveBits
def ticksBits (l : List Int) : List Bool := wavesL (stepsL l)
theorem wavesL_next {l : List Int} {k : Nat} {y : Int} (h : l[k]? = some y) : wavesL (l.take (k + 1)) = wavesL (l.take k) ++ waveBits y := by
  rw [take_snoc h]; simp [wavesL]
theorem wavesL_take (l : List Int) (k : Nat) : (wavesL (l.take k)).length ≤ (wavesL l).length := by
  have : wavesL l = wavesL (l.take k) ++ wavesL (l.drop k) := by unfold wavesL; rw [← List.flatMap_append, List.take_append_drop]
  rw [this, List.length_append]; omega

set_option maxRecDepth 100000 in
set_option maxHeartbeats 4000000 in
theorem ticks_ok (g : Nat) (bv : Value) (l0 : List Bool) (A : Option Addr) (n c : Nat) (ts : List Int) (w : World) (hr : RowAt w g bv l0) (hA : Rd w w.heap.size 1 A n (ts.map (Value.int .i64))) (hn : n ≤ 100000) (hts : ∀ t ∈ ts, Tick t) (hroom : l0.length + (ticksBits ts).length ≤ 1048576) :
    Calls Tryz.prog 126 #[.pointer (some ⟨g, 0, none⟩), .slice A n c] w fun e w' => e = .returned .nilIface ∧ RowStep w w' g bv (l0 ++ ticksBits ts) := by
  have hlen : ts.length = n := by have := hA.1; simp at this; omega
  have HA := Lib.hid hA; have Hr := Lib.hid hr; have Hlen := Lib.hid hlen; have Hts := Lib.hid hts; have Hroom := Lib.hid hroom
  clear hA hr hlen hts hroom
  go_enter Tryz.func126, Tryz.ntmps126
  go_wp2
  go_loop [18] (fun i => ∃ k : Nat, k ≤ n ∧ i = .int .i64 k) (fun i => n - (intOf i).toNat)
  case atStart => exact ⟨0, Nat.zero_le _, rfl⟩
  case round =>
    obtain ⟨k, hk, rfl⟩ := hrel
    by_cases hkn : k < n
    · obtain ⟨bb, off, t, hAe, had, hy, e0⟩ := HA.out.at1 hkn
      subst hAe
      obtain ⟨ht0, ht1⟩ := Hts.out t (List.mem_of_getElem? hy)
      clear hy had
      go_wp2
      go_round
      case rel => exact ⟨k + 1, by omega, by go_num⟩
      case measure => simp [intOf]; omega
    · obtain rfl : k = n := by omega
      go_wp2_with fail
      refine (steps_any A k c ts _ HA.out hn Hts.out).mono ?_
      rintro e w1 ⟨v1, rfl, hown1, hb1⟩
      obtain ⟨A1, c1, rfl, hc1, _, hrd1⟩ := own_form hown1
      have Hrd1 := Lib.hid hrd1; have Hb1 := Lib.hid hb1
      clear hown1 hrd1 hb1
      go_wp2
      go_loopw [7, 35] (fun s i wr => ∃ (k1 : Nat) (z : Int), k1 ≤ k ∧ i = .int .i64 k1 ∧ s = .int .i64 z ∧ z = ((wavesL ((stepsL ts).take k1)).length : Int) ∧ Below w1.heap.size w1 wr) (fun _ i _ => k - (intOf i).toNat)
      case atStart => exact ⟨0, 0, Nat.zero_le _, rfl, rfl, rfl, Below.refl _ _⟩
      case round =>
        obtain ⟨k1, z, hk1, rfl, rfl, hz, hbel⟩ := hrel
        have hzb := wavesL_take (stepsL ts) k1
        have hroom := Hroom.out
        unfold ticksBits at hroom
        have hz0 : 0 ≤ z := by omega
        have hz1 : z ≤ 1048576 := by omega
        have Hz := Lib.hid hz; have Hbel := Lib.hid hbel
        clear hz hbel hzb hroom
        by_cases hkn1 : k1 < k
        · obtain ⟨bb, off, t, hAe, had, hy, e0⟩ := Hrd1.out.at1 hkn1
          subst hAe
          have e0' := (Hbel.out.cell (p := ⟨bb, off + k1, none⟩) had).trans e0
          have hnx := wavesL_next hy
          have htb := wavesL_take (stepsL ts) (k1 + 1)
          have hroom := Hroom.out
          unfold ticksBits at hroom
          have hsl := waveBits_len t
          rw [hnx, List.length_append] at htb
          have hzz := Hz.out
          have hroomB : (z + sizeN t) ≤ 1048576 - (l0.length : Int) := by omega
          have hl0 : l0.length ≤ 1048576 := by omega
          have hzt : z + sizeN t = ((wavesL ((stepsL ts).take (k1 + 1))).length : Int) := by rw [hnx, List.length_append]; omega
          have hst := sizeN_bd t
          have Hzt := Lib.hid hzt; have Hhy := Lib.hid hy
          clear e0 hnx htb hroom hsl hzz hzt hy
          go_wp2_with fail
          refine (size_any t _).mono ?_
          rintro e w2 ⟨rfl, hb2⟩
          have Hb2 := Lib.hid hb2; clear hb2
          go_wp2_with fail
          refine (room_any g bv l0 (z + sizeN t) w2 (((Hr.out.below Hb1.out (Nat.le_refl _)).below Hbel.out (Nat.le_refl _)).below Hb2.out (Nat.le_refl _)) hl0).mono ?_
          rintro e w' ⟨rfl, rfl⟩
          go_wp2
          go_roundw
          case rel => exact ⟨k1 + 1, z + sizeN t, by omega, by go_num, rfl, Hzt.out, Below.call Hbel.out Hb2.out Hbel.out.size⟩
          case measure => simp [intOf]; omega
        · have hb3 : Below w.heap.size w wr := Below.call Hb1.out Hbel.out Hb1.out.size
          have hA3 : Rd wr wr.heap.size 1 A k (ts.map (Value.int .i64)) := (HA.out.below hb3).more hb3.size
          have hr3 : RowAt wr g bv l0 := Hr.out.below hb3 (Nat.le_refl _)
          have Hb3 := Lib.hid hb3; have HA3 := Lib.hid hA3; have Hr3 := Lib.hid hr3
          clear hb3 hA3 hr3
          go_wp2_with fail
          refine (steps_any A k c ts _ HA3.out hn Hts.out).mono ?_
          rintro e w4 ⟨v4, rfl, hown4, hb4⟩
          obtain ⟨A4, c4, rfl, hc4, _, hrd4⟩ := own_form hown4
          have hr4 : RowAt w4 g bv l0 := Hr3.out.below hb4 (Nat.le_refl _)
          have hb4' : Below w.heap.size w w4 := Below.call Hb3.out hb4 Hb3.out.size
          have Hown4 := Lib.hid hown4; have Hb4 := Lib.hid hb4'; have Hr4 := Lib.hid hr4
          clear hown4 hrd4 hb4 hb4' hr4
          go_wp2
          go_loopw [52] (fun i wq => ∃ (k1 : Nat) (bv1 : Value), k1 ≤ k ∧ i = .int .i64 k1 ∧ RowAt wq g bv1 (l0 ++ wavesL ((stepsL ts).take k1)) ∧ Fr (RowS g bv) w4 wq ∧ Mv w4 bv bv1 ∧ wq.ownsRow wr.heap.size 3 1 (.slice A4 k c4) k ((stepsL ts).map (Value.int .i64))) (fun i _ => k - (intOf i).toNat)
          case atStart => exact ⟨0, bv, Nat.zero_le _, rfl, by simpa [wavesL] using Hr4.out, Fr.refl _ _, Mv.refl _ _, Hown4.out⟩
          case round =>
            obtain ⟨k1, bv1, hk1, rfl, hrow, hfr, hmv, hown⟩ := hrel
            have Hrow := Lib.hid hrow; have Hfr := Lib.hid hfr; have Hmv := Lib.hid hmv; have Hown := Lib.hid hown
            have Hrd := Lib.hid (Rd.of_own hown)
            clear hrow hfr hmv hown
            by_cases hkn1 : k1 < k
            · obtain ⟨bb, off, t, hAe, had, hy, e0⟩ := Hrd.out.at1 hkn1
              subst hAe
              have hnx := wavesL_next hy
              have htb := wavesL_take (stepsL ts) (k1 + 1)
              have hroom := Hroom.out
              unfold ticksBits at hroom
              have hsl := waveBits_len t
              rw [hnx, List.length_append] at htb
              have hfit : ((l0 ++ wavesL ((stepsL ts).take k1)).length : Int) + sizeN t ≤ 1048576 := by rw [List.length_append]; omega
              have Hnx := Lib.hid hnx; have Hhy := Lib.hid hy
              clear hnx htb hroom hsl hy
              go_wp2_with fail
              refine (wput_ok g bv1 _ t _ Hrow.out hfit).mono ?_
              rintro e w5 ⟨rfl, hst⟩
              have hown5 := hst.own Hrow.out Hown.out (by decide) (by decide)
              obtain ⟨bv5, hr5, hf5, hm5⟩ := RowStep.trans Hrow.out Hfr.out Hmv.out hst
              have Hown5 := Lib.hid hown5; have Hr5 := Lib.hid hr5; have Hf5 := Lib.hid hf5; have Hm5 := Lib.hid hm5
              clear hst hown5 hr5 hf5 hm5
              go_wp2
              go_roundw
              case rel => exact ⟨k1 + 1, bv5, by omega, by go_num, by rw [Hnx.out, ← List.append_assoc]; exact Hr5.out, Hf5.out, Hm5.out, Hown5.out⟩
              case measure => simp [intOf]; omega
            · obtain rfl : k1 = k := by omega
              have e : (stepsL ts).take k1 = stepsL ts := List.take_of_length_le (by rw [stepsL_len, Hlen.out]; exact Nat.le_refl _)
              have hrow := Hrow.out
              rw [e] at hrow
              have Hrow2 := Lib.hid hrow
              clear hrow e
              go_wp2
              go_ret
              exact ⟨rfl, RowStep.behind Hr.out Hb4.out (Nat.le_refl _) ⟨bv1, Hrow2.out, Hfr.out, Hmv.out⟩⟩
end Go.Proofs.YtfkklcmepcocoaaGreatDoor
