/- wave's steps and Ticks by contracts: for right ticks, where there is room. -/
import Derived.Test.YthgefobcohlegaaGreatDoorMkdX
import Derived.Test.YthgefobcohlegaaGreatDoorMkcX
import Derived.Test.YthgefobcohlegaaGreatDoorMkbX
import Derived.BigQuiet
import Derived.Test.YthgefobcohlegaaGreatDoorMkeX
namespace Go.Proofs.YthgefobcohlegaaGreatDoor
open Go.RowKit
set_option linter.unusedVariables false

def Tick (t : Int) : Prop := -1099511627776 ≤ t ∧ t ≤ 1099511627776
/-- What is put of tick number k. -/
def stepAt (l : List Int) (k : Nat) : Int := if k = 0 then l.getD 0 0 else if k = 1 then l.getD 1 0 - l.getD 0 0 else l.getD k 0 - l.getD (k - 1) 0 - (l.getD (k - 1) 0 - l.getD (k - 2) 0)
def stepsL (l : List Int) : List Int := (List.range l.length).map (stepAt l)
theorem stepsL_len (l : List Int) : (stepsL l).length = l.length := by simp [stepsL]
theorem stepsL_get (l : List Int) (k : Nat) (h : k < l.length) : (stepsL l)[k]? = some (stepAt l k) := by simp [stepsL, h]
theorem getD_of {l : List Int} {k : Nat} {y : Int} (h : l[k]? = some y) : l.getD k 0 = y := by rw [List.getD_eq_getElem?_getD, h]; rfl
theorem int_one (xs : List Int) : ∀ u ∈ xs.map (Value.int .i64), u.oneCell' = true := by
  intro u hu
  obtain ⟨x, _, rfl⟩ := List.mem_map.1 hu
  rfl
theorem infoInt : (Tryz.prog.info? 3).map (fun i => (i.zero, i.size, i.bytes)) = some (some (.int .i64 0), 1, 8) := by kernel_rfl

/-- One element laid in a block of its own reads as that element. -/
theorem Rd.one (w : World) (t : TypeId) (u : Value) : Rd (w.alloc (.cells #[u] t)) (w.alloc (.cells #[u] t)).heap.size 1 (some ⟨w.heap.size, 0, none⟩) 1 [u] :=
  ⟨rfl, fun _ => ⟨_, _, rfl, by simp, fun j v hv => by rw [Nat.zero_add, (Blk.new w _ _).cell]; simpa using hv⟩⟩

set_option maxRecDepth 100000 in
set_option maxHeartbeats 4000000 in
theorem steps_any (A : Option Addr) (n c : Nat) (l : List Int) (w : World) (hA : Rd w w.heap.size 1 A n (l.map (Value.int .i64))) (hn : n ≤ 100000) (hl : ∀ t ∈ l, Tick t) :
    Calls Tryz.prog 188 #[.slice A n c] w fun e w' => ∃ v, e = .returned v ∧ w'.ownsRow w.heap.size 3 1 v n ((stepsL l).map (Value.int .i64)) ∧ Below w.heap.size w w' := by
  obtain ⟨i0, hi, hz0, hz1, hz2⟩ := info_parts infoInt
  have hlen : l.length = n := by have := hA.1; simp at this; omega
  have Hi := Lib.hid hi; have Hz0 := Lib.hid hz0; have Hz1 := Lib.hid hz1; have Hz2 := Lib.hid hz2; have Hlen := Lib.hid hlen; have Hl := Lib.hid hl
  clear hi hz0 hz1 hz2 hlen hl
  go_enter Tryz.func188, Tryz.ntmps188
  go_wp2
  go_loopw [3, 4, 5, 10] (fun v la st i wr => ∃ (k : Nat) (a b : Int), k ≤ n ∧ i = .int .i64 k ∧ la = .int .i64 a ∧ st = .int .i64 b ∧ (-1099511627776 ≤ a ∧ a ≤ 1099511627776) ∧ (-2199023255552 ≤ b ∧ b ≤ 2199023255552) ∧
      (0 < k → a = l.getD (k - 1) 0) ∧ (1 < k → b = l.getD (k - 1) 0 - l.getD (k - 2) 0) ∧ wr.ownsRow w.heap.size 3 1 v k (((stepsL l).take k).map (Value.int .i64)) ∧ Below w.heap.size w wr) (fun _ _ _ i _ => n - (intOf i).toNat)
  case atStart => exact ⟨0, 0, 0, Nat.zero_le _, rfl, rfl, rfl, by omega, by omega, by omega, by omega, World.ownsRow_nil _ _ _ _, Below.refl _ _⟩
  case round =>
    obtain ⟨k, a, b, hk, rfl, rfl, rfl, ha, hb, hav, hbv, hown, hbel⟩ := hrel
    obtain ⟨ha0, ha1⟩ := ha
    obtain ⟨hb0, hb1⟩ := hb
    have Hav := Lib.hid hav; have Hbv := Lib.hid hbv; have Hown := Lib.hid hown; have Hbel := Lib.hid hbel
    clear hav hbv hown hbel
    by_cases hkn : k < n
    · obtain ⟨bb, off, t, rfl, had, hy, e0⟩ := hA.at1 hkn
      have e0' := (Hbel.out.cell (p := ⟨bb, off + k, none⟩) had).trans e0
      obtain ⟨ht0, ht1⟩ := Hl.out t (List.mem_of_getElem? hy)
      have hg := getD_of hy
      have hst := stepsL_get l k (by rw [Hlen.out]; exact hkn)
      have htk : (stepsL l).take (k + 1) = (stepsL l).take k ++ [stepAt l k] := take_snoc hst
      have Hhy := Lib.hid hy; have Hg := Lib.hid hg; have Htk := Lib.hid htk
      clear e0 hy hg hst htk
      have hk63 : k + 1 ≤ maxLen := by unfold maxLen; omega
      have hk8 : (k + 1) * 8 ≤ 140737488355328 := by omega
      have hbs : w.heap.size ≤ wr.heap.size := Hbel.out.size
      have hsz : ∀ u : Value, w.heap.size ≤ (wr.alloc (.cells #[u] 3)).heap.size := fun u => by simp; omega
      have Hsz := Lib.hid hsz; clear hsz
      -- what the append of x leaves
      have rest : ∀ (x : Int) (wa : World) (v v' : Value), x = stepAt l k → wr.ownsRow w.heap.size 3 1 v k (((stepsL l).take k).map (Value.int .i64)) →
          wa.ownsRow w.heap.size 3 1 v' (k + 1) (((stepsL l).take k).map (Value.int .i64) ++ [.int .i64 x]) → (wr.alloc (.cells #[.int .i64 x] 3)).grownBy wa v.ownBlock →
          wa.ownsRow w.heap.size 3 1 v' (k + 1) (((stepsL l).take (k + 1)).map (Value.int .i64)) ∧ Below w.heap.size w wa := by
        intro x wa v v' hx h0 h1 h2
        refine ⟨by rw [Htk.out, List.map_append, ← hx]; exact h1, ?_⟩
        exact Below.grown (Below.alloc Hbel.out hbs _) h2 (by simp; omega) (fun q hq => (own_lt h0 q hq).1)
      have Hrest := Lib.hid rest; clear rest
      have hc : k = 0 ∨ k = 1 ∨ 2 ≤ k := by omega
      rcases hc with hc | hc | hc
      · have b0 : ((k : Int) == 0) = true := by simp [hc]
        have hx : t = stepAt l k := by unfold stepAt; rw [if_pos hc, ← Hg.out, hc]
        have Hc := Lib.hid hc; have Hx := Lib.hid hx
        clear hc hx
        go_wp2_with (at_builtin; refine wpList_append_rd _ rfl (.tmp 29) (.tmp 31) _ rfl w.heap.size 3 i0 (.int .i64 0) 1 8 Tryz.underlying61 Hi.out Hz0.out Hz1.out Hz2.out rfl (by decide) _ k _ rfl (Hown.out.alloc _) _ _ 1 1 [.int .i64 t] rfl (Rd.one wr 3 (.int .i64 t)) (int_one [t]) hk63 hk8 (Hsz.out _) ?_; intro v' wa hown' hgr hat; obtain ⟨r1, r2⟩ := Hrest.out t wa _ v' Hx.out Hown.out hown' hgr; have R1 := Lib.hid r1; have R2 := Lib.hid r2; clear r1 r2 hown' hgr hat)
        go_roundw
        case rel => exact ⟨k + 1, t, b, by omega, by go_num, rfl, rfl, ⟨ht0, ht1⟩, ⟨hb0, hb1⟩, fun _ => Hg.out.symm, fun h => absurd Hc.out (by omega), R1.out, R2.out⟩
        case measure => simp [intOf]; omega
      · have b0 : ((k : Int) == 0) = false := by rw [beq_eq_false_iff_ne]; omega
        have b1 : ((k : Int) == 1) = true := by simp [hc]
        have hx : t - a = stepAt l k := by
          unfold stepAt
          rw [if_neg (by omega), if_pos hc, ← Hg.out, Hav.out (by omega), hc]
        have hst2 : t - a = l.getD (k + 1 - 1) 0 - l.getD (k + 1 - 2) 0 := by
          rw [← Hg.out, Hav.out (by omega)]
          have e1 : k + 1 - 1 = k := by omega
          have e2 : k + 1 - 2 = k - 1 := by omega
          rw [e1, e2]
        have Hc := Lib.hid hc; have Hx := Lib.hid hx; have Hst2 := Lib.hid hst2
        clear hc hx hst2
        go_wp2_with (at_builtin; refine wpList_append_rd _ rfl (.tmp 35) (.tmp 39) _ rfl w.heap.size 3 i0 (.int .i64 0) 1 8 Tryz.underlying61 Hi.out Hz0.out Hz1.out Hz2.out rfl (by decide) _ k _ rfl (Hown.out.alloc _) _ _ 1 1 [.int .i64 (t - a)] rfl (Rd.one wr 3 (.int .i64 (t - a))) (int_one [t - a]) hk63 hk8 (Hsz.out _) ?_; intro v' wa hown' hgr hat; obtain ⟨r1, r2⟩ := Hrest.out (t - a) wa _ v' Hx.out Hown.out hown' hgr; have R1 := Lib.hid r1; have R2 := Lib.hid r2; clear r1 r2 hown' hgr hat)
        go_roundw
        case rel => exact ⟨k + 1, t, t - a, by omega, by go_num, rfl, rfl, ⟨ht0, ht1⟩, ⟨by omega, by omega⟩, fun _ => Hg.out.symm, fun _ => Hst2.out, R1.out, R2.out⟩
        case measure => simp [intOf]; omega
      · have b0 : ((k : Int) == 0) = false := by rw [beq_eq_false_iff_ne]; omega
        have b1 : ((k : Int) == 1) = false := by rw [beq_eq_false_iff_ne]; omega
        have hx : t - a - b = stepAt l k := by
          unfold stepAt
          rw [if_neg (by omega), if_neg (by omega), ← Hg.out, Hav.out (by omega), Hbv.out (by omega)]
        have hst2 : t - a = l.getD (k + 1 - 1) 0 - l.getD (k + 1 - 2) 0 := by
          rw [← Hg.out, Hav.out (by omega)]
          have e1 : k + 1 - 1 = k := by omega
          have e2 : k + 1 - 2 = k - 1 := by omega
          rw [e1, e2]
        have Hx := Lib.hid hx; have Hst2 := Lib.hid hst2
        clear hx hst2
        go_wp2_with (at_builtin; refine wpList_append_rd _ rfl (.tmp 16) (.tmp 22) _ rfl w.heap.size 3 i0 (.int .i64 0) 1 8 Tryz.underlying61 Hi.out Hz0.out Hz1.out Hz2.out rfl (by decide) _ k _ rfl (Hown.out.alloc _) _ _ 1 1 [.int .i64 (t - a - b)] rfl (Rd.one wr 3 (.int .i64 (t - a - b))) (int_one [t - a - b]) hk63 hk8 (Hsz.out _) ?_; intro v' wa hown' hgr hat; obtain ⟨r1, r2⟩ := Hrest.out (t - a - b) wa _ v' Hx.out Hown.out hown' hgr; have R1 := Lib.hid r1; have R2 := Lib.hid r2; clear r1 r2 hown' hgr hat)
        go_roundw
        case rel => exact ⟨k + 1, t, t - a, by omega, by go_num, rfl, rfl, ⟨ht0, ht1⟩, ⟨by omega, by omega⟩, fun _ => Hg.out.symm, fun _ => Hst2.out, R1.out, R2.out⟩
        case measure => simp [intOf]; omega
    · obtain rfl : k = n := by omega
      have e : (stepsL l).take k = stepsL l := List.take_of_length_le (by rw [stepsL_len, Hlen.out]; exact Nat.le_refl _)
      have hown2 := Hown.out
      rw [e] at hown2
      have Hown2 := Lib.hid hown2
      clear hown2 e hA
      go_wp2
      go_ret
      exact ⟨_, rfl, Hown2.out, Hbel.out⟩
end Go.Proofs.YthgefobcohlegaaGreatDoor

namespace Go.Proofs.YthgefobcohlegaaGreatDoor
open Go.RowKit
set_option linter.unusedVariables false

def wavesL (l : List Int) : List Bool := l.flatMap waveBits
def ticksBits (l : List Int) : List Bool := wavesL (stepsL l)
theorem wavesL_next {l : List Int} {k : Nat} {y : Int} (h : l[k]? = some y) : wavesL (l.take (k + 1)) = wavesL (l.take k) ++ waveBits y := by
  rw [take_snoc h]; simp [wavesL]
theorem wavesL_take (l : List Int) (k : Nat) : (wavesL (l.take k)).length ≤ (wavesL l).length := by
  have : wavesL l = wavesL (l.take k) ++ wavesL (l.drop k) := by unfold wavesL; rw [← List.flatMap_append, List.take_append_drop]
  rw [this, List.length_append]; omega

set_option maxRecDepth 100000 in
set_option maxHeartbeats 4000000 in
theorem ticks_ok (g : Nat) (bv : Value) (l0 : List Bool) (A : Option Addr) (n c : Nat) (ts : List Int) (w : World) (hr : RowAt w g bv l0) (hA : Rd w w.heap.size 1 A n (ts.map (Value.int .i64))) (hn : n ≤ 100000) (hts : ∀ t ∈ ts, Tick t) (hroom : l0.length + (ticksBits ts).length ≤ 1048576) :
    Calls Tryz.prog 158 #[.pointer (some ⟨g, 0, none⟩), .slice A n c] w fun e w' => e = .returned .nilIface ∧ RowStep w w' g bv (l0 ++ ticksBits ts) := by
  have hlen : ts.length = n := by have := hA.1; simp at this; omega
  have HA := Lib.hid hA; have Hr := Lib.hid hr; have Hlen := Lib.hid hlen; have Hts := Lib.hid hts; have Hroom := Lib.hid hroom
  clear hA hr hlen hts hroom
  go_enter Tryz.func158, Tryz.ntmps158
  go_wp2
  go_loop [18] (fun i => ∃ k : Nat, k ≤ n ∧ i = .int .i64 k) (fun i => n - (intOf i).toNat)
  case atStart => exact ⟨0, Nat.zero_le _, rfl⟩
  case round =>
    obtain ⟨k, hk, rfl⟩ := hrel
    by_cases hkn : k < n
    · obtain ⟨bb, off, t, hAe, had, hy, e0⟩ := HA.out.at1 hkn
      subst hAe
      obtain ⟨ht0, ht1⟩ := Hts.out t (List.mem_of_getElem? hy)
      clear hy had
      go_wp2
      go_round
      case rel => exact ⟨k + 1, by omega, by go_num⟩
      case measure => simp [intOf]; omega
    · obtain rfl : k = n := by omega
      go_wp2_with fail
      refine (steps_any A k c ts _ HA.out hn Hts.out).mono ?_
      rintro e w1 ⟨v1, rfl, hown1, hb1⟩
      obtain ⟨A1, c1, rfl, hc1, _, hrd1⟩ := own_form hown1
      have Hrd1 := Lib.hid hrd1; have Hb1 := Lib.hid hb1
      clear hown1 hrd1 hb1
      go_wp2
      go_loopw [7, 35] (fun s i wr => ∃ (k1 : Nat) (z : Int), k1 ≤ k ∧ i = .int .i64 k1 ∧ s = .int .i64 z ∧ z = ((wavesL ((stepsL ts).take k1)).length : Int) ∧ Below w1.heap.size w1 wr) (fun _ i _ => k - (intOf i).toNat)
      case atStart => exact ⟨0, 0, Nat.zero_le _, rfl, rfl, rfl, Below.refl _ _⟩
      case round =>
        obtain ⟨k1, z, hk1, rfl, rfl, hz, hbel⟩ := hrel
        have hzb := wavesL_take (stepsL ts) k1
        have hroom := Hroom.out
        unfold ticksBits at hroom
        have hz0 : 0 ≤ z := by omega
        have hz1 : z ≤ 1048576 := by omega
        have Hz := Lib.hid hz; have Hbel := Lib.hid hbel
        clear hz hbel hzb hroom
        by_cases hkn1 : k1 < k
        · obtain ⟨bb, off, t, hAe, had, hy, e0⟩ := Hrd1.out.at1 hkn1
          subst hAe
          have e0' := (Hbel.out.cell (p := ⟨bb, off + k1, none⟩) had).trans e0
          have hnx := wavesL_next hy
          have htb := wavesL_take (stepsL ts) (k1 + 1)
          have hroom := Hroom.out
          unfold ticksBits at hroom
          have hsl := waveBits_len t
          rw [hnx, List.length_append] at htb
          have hzz := Hz.out
          have hroomB : (z + sizeN t) ≤ 1048576 - (l0.length : Int) := by omega
          have hl0 : l0.length ≤ 1048576 := by omega
          have hzt : z + sizeN t = ((wavesL ((stepsL ts).take (k1 + 1))).length : Int) := by rw [hnx, List.length_append]; omega
          have hst := sizeN_bd t
          have Hzt := Lib.hid hzt; have Hhy := Lib.hid hy
          clear e0 hnx htb hroom hsl hzz hzt hy
          go_wp2_with fail
          refine (size_any t _).mono ?_
          rintro e w2 ⟨rfl, hb2⟩
          have Hb2 := Lib.hid hb2; clear hb2
          go_wp2_with fail
          refine (room_any g bv l0 (z + sizeN t) w2 (((Hr.out.below Hb1.out (Nat.le_refl _)).below Hbel.out (Nat.le_refl _)).below Hb2.out (Nat.le_refl _)) hl0).mono ?_
          rintro e w' ⟨rfl, rfl⟩
          go_wp2
          go_roundw
          case rel => exact ⟨k1 + 1, z + sizeN t, by omega, by go_num, rfl, Hzt.out, Below.call Hbel.out Hb2.out Hbel.out.size⟩
          case measure => simp [intOf]; omega
        · have hb3 : Below w.heap.size w wr := Below.call Hb1.out Hbel.out Hb1.out.size
          have hA3 : Rd wr wr.heap.size 1 A k (ts.map (Value.int .i64)) := (HA.out.below hb3).more hb3.size
          have hr3 : RowAt wr g bv l0 := Hr.out.below hb3 (Nat.le_refl _)
          have Hb3 := Lib.hid hb3; have HA3 := Lib.hid hA3; have Hr3 := Lib.hid hr3
          clear hb3 hA3 hr3
          go_wp2_with fail
          refine (steps_any A k c ts _ HA3.out hn Hts.out).mono ?_
          rintro e w4 ⟨v4, rfl, hown4, hb4⟩
          obtain ⟨A4, c4, rfl, hc4, _, hrd4⟩ := own_form hown4
          have hr4 : RowAt w4 g bv l0 := Hr3.out.below hb4 (Nat.le_refl _)
          have hb4' : Below w.heap.size w w4 := Below.call Hb3.out hb4 Hb3.out.size
          have Hown4 := Lib.hid hown4; have Hb4 := Lib.hid hb4'; have Hr4 := Lib.hid hr4
          clear hown4 hrd4 hb4 hb4' hr4
          go_wp2
          go_loopw [52] (fun i wq => ∃ (k1 : Nat) (bv1 : Value), k1 ≤ k ∧ i = .int .i64 k1 ∧ RowAt wq g bv1 (l0 ++ wavesL ((stepsL ts).take k1)) ∧ Fr (RowS g bv) w4 wq ∧ Mv w4 bv bv1 ∧ wq.ownsRow wr.heap.size 3 1 (.slice A4 k c4) k ((stepsL ts).map (Value.int .i64))) (fun i _ => k - (intOf i).toNat)
          case atStart => exact ⟨0, bv, Nat.zero_le _, rfl, by simpa [wavesL] using Hr4.out, Fr.refl _ _, Mv.refl _ _, Hown4.out⟩
          case round =>
            obtain ⟨k1, bv1, hk1, rfl, hrow, hfr, hmv, hown⟩ := hrel
            have Hrow := Lib.hid hrow; have Hfr := Lib.hid hfr; have Hmv := Lib.hid hmv; have Hown := Lib.hid hown
            have Hrd := Lib.hid (Rd.of_own hown)
            clear hrow hfr hmv hown
            by_cases hkn1 : k1 < k
            · obtain ⟨bb, off, t, hAe, had, hy, e0⟩ := Hrd.out.at1 hkn1
              subst hAe
              have hnx := wavesL_next hy
              have htb := wavesL_take (stepsL ts) (k1 + 1)
              have hroom := Hroom.out
              unfold ticksBits at hroom
              have hsl := waveBits_len t
              rw [hnx, List.length_append] at htb
              have hfit : ((l0 ++ wavesL ((stepsL ts).take k1)).length : Int) + sizeN t ≤ 1048576 := by rw [List.length_append]; omega
              have Hnx := Lib.hid hnx; have Hhy := Lib.hid hy
              clear hnx htb hroom hsl hy
              go_wp2_with fail
              refine (wput_ok g bv1 _ t _ Hrow.out hfit).mono ?_
              rintro e w5 ⟨rfl, hst⟩
              have hown5 := hst.own Hrow.out Hown.out (by decide) (by decide)
              obtain ⟨bv5, hr5, hf5, hm5⟩ := RowStep.trans Hrow.out Hfr.out Hmv.out hst
              have Hown5 := Lib.hid hown5; have Hr5 := Lib.hid hr5; have Hf5 := Lib.hid hf5; have Hm5 := Lib.hid hm5
              clear hst hown5 hr5 hf5 hm5
              go_wp2
              go_roundw
              case rel => exact ⟨k1 + 1, bv5, by omega, by go_num, by rw [Hnx.out, ← List.append_assoc]; exact Hr5.out, Hf5.out, Hm5.out, Hown5.out⟩
              case measure => simp [intOf]; omega
            · obtain rfl : k1 = k := by omega
              have e : (stepsL ts).take k1 = stepsL ts := List.take_of_length_le (by rw [stepsL_len, Hlen.out]; exact Nat.le_refl _)
              have hrow := Hrow.out
              rw [e] at hrow
              have Hrow2 := Lib.hid hrow
              clear hrow e
              go_wp2
              go_ret
              exact ⟨rfl, RowStep.behind Hr.out Hb4.out (Nat.le_refl _) ⟨bv1, Hrow2.out, Hfr.out, Hmv.out⟩⟩
end Go.Proofs.YthgefobcohlegaaGreatDoor

namespace Go.Proofs.YthgefobcohlegaaGreatDoor
open Go.RowKit
set_option linter.unusedVariables false

/-- Point i is right: a tick, and behind the one ahead. -/
def okAt (l : List (Int × Int)) (i : Nat) : Prop := Tick (l.getD i (0, 0)).1 ∧ (0 < i → (l.getD (i - 1) (0, 0)).1 < (l.getD i (0, 0)).1)
/-- What is wrong with it: bound, or old. -/
def codeAt (l : List (Int × Int)) (i : Nat) : Nat := if -1099511627776 ≤ (l.getD i (0, 0)).1 ∧ (l.getD i (0, 0)).1 ≤ 1099511627776 then 7 else 1
instance (l : List (Int × Int)) (i : Nat) : Decidable (okAt l i) := by unfold okAt Tick; infer_instance
theorem getD_pt {l : List (Int × Int)} {i : Nat} {y : Int × Int} (h : l[i]? = some y) : l.getD i (0, 0) = y := by rw [List.getD_eq_getElem?_getD, h]; rfl
theorem first_pt (l : List (Int × Int)) : ∀ n, ∃ i, i ≤ n ∧ (∀ j, j < i → okAt l j) ∧ (i < n → ¬ okAt l i)
  | 0 => ⟨0, Nat.le_refl _, fun j h => absurd h (Nat.not_lt_zero _), fun h => absurd h (Nat.not_lt_zero _)⟩
  | n + 1 => by
    obtain ⟨i, h1, h2, h3⟩ := first_pt l n
    by_cases hi : i < n
    · exact ⟨i, by omega, h2, fun _ => h3 hi⟩
    · obtain rfl : i = n := by omega
      by_cases ho : okAt l i
      · exact ⟨i + 1, Nat.le_refl _, fun j hj => by
          rcases Nat.lt_or_ge j i with h | h
          · exact h2 j h
          · obtain rfl : j = i := by omega
            exact ho, fun h => absurd h (Nat.lt_irrefl _)⟩
      · exact ⟨i, by omega, h2, fun _ => ho⟩

/-- What Check answers. -/
def KPost (es : Nat → Addr) (l : List (Int × Int)) (n i : Nat) (w : World) (e : Ending) (w' : World) : Prop :=
  (i = n → e = .returned .nilIface) ∧
  (i < n → ∃ pb, e = .returned (faultV ⟨pb, 0, none⟩) ∧ w.heap.size ≤ pb ∧ pb < w'.heap.size ∧ w'.cell? ⟨pb, 0, none⟩ = some (.int .i64 i) ∧ w'.cell? ⟨pb, 1, none⟩ = some (sentV (es (codeAt l i)))) ∧ Below w.heap.size w w'
theorem KPost.bad {es : Nat → Addr} {l : List (Int × Int)} {n i cc : Nat} {w wr : World} {o : Obj} {e : Ending} {W : World} (hW : W = (wr.alloc o).alloc (.cells #[.int .i64 i, sentV (es cc)] 148)) (hin : i < n) (hcode : codeAt l i = cc) (hb : Below w.heap.size w wr) (he : e = .returned (faultV ⟨wr.heap.size + 1, 0, none⟩)) : KPost es l n i w e W := by
  have hs := hb.size
  have HB := Blk.new (wr.alloc o) 148 #[.int .i64 i, sentV (es cc)]
  rw [← hW, show (wr.alloc o).heap.size = wr.heap.size + 1 by simp] at HB
  have hb2 : Below w.heap.size w W := by
    rw [hW]
    exact Below.alloc (Below.alloc hb hs _) (by simp; omega) _
  exact ⟨fun h => absurd h (by omega), fun _ => ⟨wr.heap.size + 1, he, by omega, HB.lt, HB.cell 0, by rw [hcode]; exact HB.cell 1⟩, hb2⟩
theorem KPost.drewN {es : Nat → Addr} {l : List (Int × Int)} {n i : Nat} {w W : World} {e : Ending} (h : KPost es l n i w e W) (k : Nat) : KPost es l n i w e (W.drewN k) := ⟨h.1, fun hi => by
  obtain ⟨pb, h1, h2, h3, h4, h5⟩ := h.2.1 hi
  exact ⟨pb, h1, h2, h3, h4, h5⟩, Below.drewN h.2.2 k⟩

set_option maxRecDepth 100000 in
set_option maxHeartbeats 4000000 in
theorem check_any {es : Nat → Addr} {B : Nat} (A : Option Addr) (n c : Nat) (l : List (Int × Int)) (i : Nat) (w : World) (hS : SV es B w) (hB0 : B ≤ w.heap.size) (hA : Rd w w.heap.size 2 A n (ptsC l)) (hn : n ≤ 120) (hi : i ≤ n) (hok : ∀ j, j < i → okAt l j) (hbad : i < n → ¬ okAt l i) :
    Calls Tryz.prog 154 #[.slice A n c] w (KPost es l n i w) := by
  have hn' : (n : Int) ≤ 120 := by omega
  have HS := Lib.hid hS; have HA := Lib.hid hA; have Hok := Lib.hid hok; have Hbad := Lib.hid hbad
  clear hS hA hok hbad
  go_enter Tryz.func154, Tryz.ntmps154
  go_wp2
  go_loopw [11] (fun iv wr => ∃ k : Nat, k ≤ i ∧ iv = .int .i64 k ∧ Below w.heap.size w wr) (fun iv _ => n - (intOf iv).toNat)
  case atStart => exact ⟨0, Nat.zero_le _, rfl, Below.refl _ _⟩
  case round =>
    obtain ⟨k, hk, rfl, hbel⟩ := hrel
    have Hbel := Lib.hid hbel
    have hwr : w.heap.size ≤ wr.heap.size := hbel.size
    clear hbel
    by_cases hkn : k < n
    · obtain ⟨bb, off, y, hAe, had, hy, e0, e1⟩ := (HA.out.below Hbel.out).at2 hkn
      subst hAe
      have hg := getD_pt hy
      have HB2 := Lib.hid (Below.alloc Hbel.out hwr (.cells #[.int .i64 y.1, .int .u64 y.2] 39))
      have g1 : (wr.alloc (.cells #[.int .i64 y.1, .int .u64 y.2] 39)).cell? ⟨0, 0, none⟩ = some (sentV (es 1)) := (HS.out.below HB2.out hB0).var 1 (by decide)
      have g7 : (wr.alloc (.cells #[.int .i64 y.1, .int .u64 y.2] 39)).cell? ⟨2, 0, none⟩ = some (sentV (es 7)) := (HS.out.below HB2.out hB0).var 7 (by decide)
      by_cases htk : -1099511627776 ≤ y.1 ∧ y.1 ≤ 1099511627776
      · obtain ⟨t0, t1⟩ := htk
        have q0 : ¬ y.1 < -1099511627776 := by omega
        have q1 : ¬ 1099511627776 < y.1 := by omega
        by_cases hk0 : k = 0
        · subst hk0
          have hko : okAt l 0 := ⟨by rw [hg]; exact ⟨t0, t1⟩, fun h => absurd h (Nat.lt_irrefl _)⟩
          have hki : 0 < i := by
            rcases Nat.eq_zero_or_pos i with h | h
            · subst h; exact absurd hko (Hbad.out hkn)
            · exact h
          simp only [Nat.add_zero, Nat.zero_mul] at e0 e1
          clear hg hy hko
          go_wp2
          go_quiet (fail)
          go_wp2
          go_roundw
          case rel => exact ⟨0 + 1, by omega, by go_num, Below.drewN HB2.out _⟩
          case measure => simp [intOf]; omega
        · obtain ⟨bb2, off2, z, hA2, had2, hz, e2, e3⟩ := (HA.out.below Hbel.out).at2 (k := k - 1) (by omega)
          injection hA2 with hA2
          injection hA2 with hA3 hA4
          subst hA3; subst hA4
          have hgz := getD_pt hz
          have n1 : IntKind.i64.wrap ((k : Int) - 1) = ((k - 1 : Nat) : Int) := by rw [IntKind.wrap_i64]; omega
          have c0 : (0 : Int) < (k : Int) := by omega
          have hdk : decide (0 < k) = true := decide_eq_true (by omega)
          have hltb : bb < wr.heap.size := Nat.lt_of_lt_of_le had hwr
          have hkl : ((k - 1 : Nat) : Int) < (n : Int) := by omega
          have e2' : (wr.alloc (.cells #[.int .i64 y.1, .int .u64 y.2] 39)).cell? ⟨bb, off + (k - 1) * 2, none⟩ = some (.int .i64 z.1) := ((Below.alloc (Below.refl wr.heap.size wr) (Nat.le_refl _) _).cell (p := ⟨bb, off + (k - 1) * 2, none⟩) hltb).trans e2
          by_cases hzy : z.1 < y.1
          · have hko : okAt l k := ⟨by rw [hg]; exact ⟨t0, t1⟩, fun _ => by rw [hg, hgz]; exact hzy⟩
            have hki : k < i := by
              rcases Nat.lt_or_ge k i with h | h
              · exact h
              · obtain rfl : k = i := by omega
                exact absurd hko (Hbad.out hkn)
            have hd : decide (y.1 ≤ z.1) = false := decide_eq_false (by omega)
            have hd' : ¬ y.1 ≤ z.1 := by omega
            clear hg hgz hy hz hko e3
            go_wp2
            go_quiet (fail)
            go_wp2
            go_roundw
            case rel => exact ⟨k + 1, by omega, by go_num, Below.drewN HB2.out _⟩
            case measure => simp [intOf]; omega
          · have hki : k = i := by
              rcases Nat.lt_or_ge k i with h | h
              · have := (Hok.out k h).2 (by omega)
                rw [hg, hgz] at this
                exact absurd this hzy
              · omega
            subst hki
            have hd : decide (y.1 ≤ z.1) = true := decide_eq_true (by omega)
            have hd' : y.1 ≤ z.1 := by omega
            have hcode : codeAt l k = 7 := by unfold codeAt; rw [hg, if_pos ⟨t0, t1⟩]
            have Hcode := Lib.hid hcode
            clear hg hgz hy hz hcode e3
            go_wp2
            go_quiet (fail)
            go_wp2
            go_ret
            exact KPost.drewN (KPost.bad rfl hkn Hcode.out Hbel.out rfl) _
      · have hki : k = i := by
          rcases Nat.lt_or_ge k i with h | h
          · have := (Hok.out k h).1
            rw [hg] at this
            exact absurd this htk
          · omega
        subst hki
        have hcode : codeAt l k = 1 := by unfold codeAt; rw [hg, if_neg htk]
        have Hcode := Lib.hid hcode
        have hbd : y.1 < -1099511627776 ∨ (-1099511627776 ≤ y.1 ∧ 1099511627776 < y.1) := by omega
        clear hg hy hcode htk
        rcases hbd with q0 | ⟨q0, q1⟩
        · go_wp2
          go_ret
          exact KPost.bad rfl hkn Hcode.out Hbel.out rfl
        · have q2 : ¬ y.1 < -1099511627776 := by omega
          go_wp2
          go_ret
          exact KPost.bad rfl hkn Hcode.out Hbel.out rfl
    · obtain rfl : k = n := by omega
      obtain rfl : i = k := by omega
      go_wp2
      go_ret
      exact ⟨fun _ => rfl, fun h => absurd h (Nat.lt_irrefl _), Hbel.out⟩
end Go.Proofs.YthgefobcohlegaaGreatDoor

namespace Go.Proofs.YthgefobcohlegaaGreatDoor
open Go.RowKit
set_option linter.unusedVariables false

theorem samePoints_eq (A : Option Addr) (n c : Nat) (A' : Option Addr) (c' : Nat) (ps : List (Int × Int)) (w : World) (hA : Rd w w.heap.size 2 A n (ptsC ps)) (hA' : Rd w w.heap.size 2 A' n (ptsC ps)) (hn : n ≤ 100000) :
    Calls Tryz.prog 17 #[.slice A n c, .slice A' n c'] w fun e w' => e = .returned (.bool true) ∧ Below w.heap.size w w' := by
  have HA := Lib.hid hA; have HA' := Lib.hid hA'
  clear hA hA'
  go_enter Tryz.func17, Tryz.ntmps17
  go_wp2
  go_loopw [5] (fun i wr => ∃ k : Nat, k ≤ n ∧ i = .int .i64 k ∧ Below w.heap.size w wr) (fun i _ => n - (intOf i).toNat)
  case atStart => exact ⟨0, Nat.zero_le _, rfl, Below.refl _ _⟩
  case round =>
    obtain ⟨k, hk, rfl, hbel⟩ := hrel
    by_cases hkn : k < n
    · obtain ⟨b0, o0, y, hA0, had0, hy0, e0, e0b⟩ := HA.out.at2 hkn
      obtain ⟨b1, o1, z, hA1, had1, hz1, e1, e1b⟩ := HA'.out.at2 hkn
      obtain rfl : y = z := Option.some.inj (hy0.symm.trans hz1)
      subst hA0; subst hA1
      have x0 := (hbel.cell (p := ⟨b0, o0 + k * 2, none⟩) had0).trans e0
      have x1 := (hbel.cell (p := ⟨b0, o0 + k * 2 + 1, none⟩) had0).trans e0b
      have x2 := (hbel.cell (p := ⟨b1, o1 + k * 2, none⟩) had1).trans e1
      have x3 := (hbel.cell (p := ⟨b1, o1 + k * 2 + 1, none⟩) had1).trans e1b
      have Hbel := Lib.hid hbel
      clear hy0 hz1 e0 e1 e0b e1b hbel
      go_wp2
      go_quiet (fail)
      go_wp2
      go_roundw
      case rel => exact ⟨k + 1, by omega, by go_num, Below.drewN Hbel.out _⟩
      case measure => simp [intOf]; omega
    · obtain rfl : k = n := by omega
      have Hbel := Lib.hid hbel
      clear hbel
      go_wp2
      go_ret
      exact ⟨rfl, Hbel.out⟩

end Go.Proofs.YthgefobcohlegaaGreatDoor

namespace Go.Proofs.YthgefobcohlegaaGreatDoor
open Go.RowKit
set_option linter.unusedVariables false

/-- Labels as cells. -/
def lbC (l : List Lb) : List Value := l.flatMap fun p => [.string (B8 p.1), .string (B8 p.2)]
theorem lbC_len (l : List Lb) : (lbC l).length = l.length * 2 := flat_len (fun p : Lb => [Value.string (B8 p.1), Value.string (B8 p.2)]) 2 (fun _ => rfl) l
theorem getD_lb {l : List Lb} {i : Nat} {y : Lb} (h : l[i]? = some y) : lbAt l i = y := by unfold lbAt; rw [List.getD_eq_getElem?_getD, h]; rfl
/-- What Check answers, cc the number of what is wrong. -/
def LPost (es : Nat → Addr) (cc n i : Nat) (w : World) (e : Ending) (w' : World) : Prop :=
  (i = n → e = .returned .nilIface) ∧
  (i < n → ∃ pb, e = .returned (faultV ⟨pb, 0, none⟩) ∧ w.heap.size ≤ pb ∧ pb < w'.heap.size ∧ w'.cell? ⟨pb, 0, none⟩ = some (.int .i64 i) ∧ w'.cell? ⟨pb, 1, none⟩ = some (sentV (es cc))) ∧ Below w.heap.size w w'
theorem LPost.bad {es : Nat → Addr} {n i cc : Nat} {w wr : World} {e : Ending} {W : World} (hW : W = wr.alloc (.cells #[.int .i64 i, sentV (es cc)] 148)) (hin : i < n) (hb : Below w.heap.size w wr) (he : e = .returned (faultV ⟨wr.heap.size, 0, none⟩)) : LPost es cc n i w e W := by
  have hs := hb.size
  have HB := Blk.new wr 148 #[.int .i64 i, sentV (es cc)]
  rw [← hW] at HB
  have hb2 : Below w.heap.size w W := by rw [hW]; exact Below.alloc hb hs _
  exact ⟨fun h => absurd h (by omega), fun _ => ⟨wr.heap.size, he, by omega, HB.lt, HB.cell 0, HB.cell 1⟩, hb2⟩
theorem leS_B8 (a b : Bs) : (Op.bytesLess (B8 a).toList (B8 b).toList || (B8 a).toList == (B8 b).toList) = leS a b := by
  rw [B8_toList, B8_toList]; rfl
abbrev svlL : List Nat := [0, 1, 2, 3, 4, 6, 7]
/-- The sentinels of labels' and heads' own code. -/
structure SVL (es : Nat → Addr) (B : Nat) (w : World) : Prop where
  var : ∀ k, k ∈ svlL → w.cell? ⟨gErr k, 0, none⟩ = some (sentV (es k))
  glt : ∀ k, k ∈ svlL → gErr k < B
theorem svl_lt {k : Nat} (hk : k ∈ svlL) : k < 11 := by
  simp [svlL] at hk; omega
theorem SVL.below {es : Nat → Addr} {B C : Nat} {w w' : World} (h : SVL es B w) (hb : Below C w w') (hC : B ≤ C) : SVL es B w' :=
  ⟨fun k hk => (hb.cell (p := ⟨gErr k, 0, none⟩) (Nat.lt_of_lt_of_le (h.glt k hk) hC)).trans (h.var k hk), h.glt⟩
theorem Sents.vl {es : Nat → Addr} {B : Nat} {w : World} (h : Sents es B w) : SVL es B w := ⟨fun k hk => h.var k (svl_lt hk), fun k hk => h.glt k (svl_lt hk)⟩

set_option maxRecDepth 100000 in
theorem lcheck_none {es : Nat → Addr} {B : Nat} (A : Option Addr) (c : Nat) (w : World) (hS : SVL es B w) :
    Calls Tryz.prog 49 #[.slice A 0 c] w fun e w' => e = .returned (sentV (es 4)) ∧ w = w' := by
  have g1 : w.cell? ⟨7, 0, none⟩ = some (sentV (es 4)) := hS.var 4 (by decide)
  clear hS
  go_enter Tryz.func49, Tryz.ntmps49
  go_wp2
  go_ret
  exact ⟨rfl, rfl⟩
set_option maxRecDepth 100000 in
theorem lcheck_long {es : Nat → Addr} {B : Nat} (A : Option Addr) (n c : Nat) (w : World) (hS : SVL es B w) (hn : 6 < n) :
    Calls Tryz.prog 49 #[.slice A n c] w fun e w' => e = .returned (sentV (es 1)) ∧ w = w' := by
  have g1 : w.cell? ⟨0, 0, none⟩ = some (sentV (es 1)) := hS.var 1 (by decide)
  have hn' : (6 : Int) < n := by omega
  have hn0 : ((n : Int) == 0) = false := by rw [beq_eq_false_iff_ne]; omega
  clear hS
  go_enter Tryz.func49, Tryz.ntmps49
  go_wp2
  go_ret
  exact ⟨rfl, rfl⟩

set_option maxRecDepth 100000 in
set_option maxHeartbeats 4000000 in
theorem lcheck_any {es : Nat → Addr} {B : Nat} (A : Option Addr) (n c : Nat) (l : List Lb) (i : Nat) (w : World) (hS : SVL es B w) (hB0 : B ≤ w.heap.size) (hA : Rd w w.heap.size 2 A n (lbC l)) (h1 : 1 ≤ n) (hn : n ≤ 6) (hi : i ≤ n) (hok : ∀ j, j < i → lbOk l j) (hbad : i < n → ¬ lbOk l i) :
    Calls Tryz.prog 49 #[.slice A n c] w (LPost es (lbCode l i) n i w) := by
  have hn' : (n : Int) ≤ 6 := by omega
  have hn0 : ((n : Int) == 0) = false := by rw [beq_eq_false_iff_ne]; omega
  have HS := Lib.hid (fun W (hb : Below w.heap.size w W) => hS.below hb hB0)
  have HA := Lib.hid hA; have Hok := Lib.hid hok; have Hbad := Lib.hid hbad
  clear hS hA hok hbad
  go_enter Tryz.func49, Tryz.ntmps49
  go_wp2
  go_loopw [17] (fun iv wr => ∃ k : Nat, k ≤ i ∧ iv = .int .i64 k ∧ Below w.heap.size w wr) (fun iv _ => n - (intOf iv).toNat)
  case atStart => exact ⟨0, Nat.zero_le _, rfl, Below.refl _ _⟩
  case round =>
    obtain ⟨k, hk, rfl, hbel⟩ := hrel
    have Hbel := Lib.hid hbel
    have hwr : w.heap.size ≤ wr.heap.size := hbel.size
    clear hbel
    by_cases hkn : k < n
    · obtain ⟨bb, off, y, hAe, had, hy, e0, e1⟩ := (HA.out.below Hbel.out).at2 hkn
      subst hAe
      have hg := getD_lb hy
      have HY := Lib.hid hg
      have HB2 := Lib.hid (Below.alloc Hbel.out hwr (.cells #[.string (B8 y.1), .string (B8 y.2)] 90))
      have HK2 := Lib.hid (Blk.new wr 90 #[.string (B8 y.1), .string (B8 y.2)])
      have Hn1 := Lib.hid (fun W => name_any y.1 W); have Hw1 := Lib.hid (fun W => word_any y.2 W)
      have hbb : bb < wr.heap.size := Nat.lt_of_lt_of_le had hwr
      obtain ⟨s1, hs1⟩ : ∃ s1, s1 = B8 y.1 := ⟨_, rfl⟩
      obtain ⟨s2, hs2⟩ : ∃ s2, s2 = B8 y.2 := ⟨_, rfl⟩
      rw [← hs1] at e0; rw [← hs2] at e1
      rw [← hs1, ← hs2] at HB2 HK2
      rw [← hs1] at Hn1; rw [← hs2] at Hw1
      have Hs1 := Lib.hid hs1
      clear hs1 hs2 hg hy
      cases hnm : nameB y.1 with
      | false =>
        have hki : k = i := by
          rcases Nat.lt_or_ge k i with h | h
          · have := (Hok.out k h).1
            rw [HY.out, hnm] at this
            cases this
          · omega
        subst hki
        have Hcode := Lib.hid (show lbCode l k = 3 from by unfold lbCode; rw [HY.out, hnm]; simp)
        rw [hnm] at Hn1
        clear hnm
        go_wp2_with fail
        refine (Hn1.out _).mono ?_
        rintro e w1 ⟨rfl, hb⟩
        have HB3 := Lib.hid (Below.call HB2.out hb (by simp; omega))
        have g3 : w1.cell? ⟨6, 0, none⟩ = some (sentV (es 3)) := (HS.out _ HB3.out).var 3 (by decide)
        clear hb
        go_wp2
        go_ret
        exact LPost.bad (by rw [Hcode.out]) hkn HB3.out rfl
      | true =>
        rw [hnm] at Hn1
        have Hnm := Lib.hid hnm
        clear hnm
        go_wp2_with fail
        refine (Hn1.out _).mono ?_
        rintro e w1 ⟨rfl, hb⟩
        have HB3 := Lib.hid (Below.call HB2.out hb (by simp; omega))
        have HK3 := Lib.hid (HK2.out.below hb (by simp))
        have hz1 : wr.heap.size < w1.heap.size := HK3.out.lt
        have k1 : w1.cell? ⟨wr.heap.size, 1, none⟩ = some (.string s2) := HK3.out.cell 1
        clear hb
        cases hwd : wordB y.2 with
        | false =>
          have hki : k = i := by
            rcases Nat.lt_or_ge k i with h | h
            · have := (Hok.out k h).2.1
              rw [HY.out, hwd] at this
              cases this
            · omega
          subst hki
          have Hcode := Lib.hid (show lbCode l k = 3 from by unfold lbCode; rw [HY.out, hwd]; simp)
          rw [hwd] at Hw1
          clear hwd
          go_wp2_with fail
          refine (Hw1.out _).mono ?_
          rintro e w2 ⟨rfl, hb⟩
          have HB4 := Lib.hid (Below.call HB3.out hb (by omega))
          have g3 : w2.cell? ⟨6, 0, none⟩ = some (sentV (es 3)) := (HS.out _ HB4.out).var 3 (by decide)
          clear hb
          go_wp2
          go_ret
          exact LPost.bad (by rw [Hcode.out]) hkn HB4.out rfl
        | true =>
          rw [hwd] at Hw1
          have Hwd := Lib.hid hwd
          clear hwd
          go_wp2_with fail
          refine (Hw1.out _).mono ?_
          rintro e w2 ⟨rfl, hb⟩
          have HB4 := Lib.hid (Below.call HB3.out hb (by omega))
          have HK4 := Lib.hid (HK3.out.below hb HK3.out.lt)
          have k0 : w2.cell? ⟨wr.heap.size, 0, none⟩ = some (.string s1) := HK4.out.cell 0
          have g2 : w2.cell? ⟨3, 0, none⟩ = some (sentV (es 2)) := (HS.out _ HB4.out).var 2 (by decide)
          clear hb k1 hz1
          by_cases hk0 : k = 0
          · subst hk0
            have hki : 0 < i := by
              rcases Nat.eq_zero_or_pos i with h | h
              · subst h
                exact absurd (show lbOk l 0 from ⟨by rw [HY.out]; exact Hnm.out, by rw [HY.out]; exact Hwd.out, fun h => absurd h (Nat.lt_irrefl _)⟩) (Hbad.out hkn)
              · exact h
            clear e0 e1
            go_wp2
            go_quiet (fail)
            go_wp2
            go_roundw
            case rel => exact ⟨0 + 1, by omega, by go_num, Below.drewN HB4.out _⟩
            case measure => simp [intOf]; omega
          · obtain ⟨bb2, off2, z, hA2, had2, hz, e2, _⟩ := (HA.out.below HB4.out).at2 (k := k - 1) (by omega)
            injection hA2 with hA2
            injection hA2 with hA3 hA4
            subst hA3; subst hA4
            have hgz := getD_lb hz
            have n1 : IntKind.i64.wrap ((k : Int) - 1) = ((k - 1 : Nat) : Int) := by rw [IntKind.wrap_i64]; omega
            have c0 : (0 : Int) < (k : Int) := by omega
            have hdk : decide (0 < k) = true := decide_eq_true (by omega)
            have hkl : ((k - 1 : Nat) : Int) < (n : Int) := by omega
            have hle := leS_B8 y.1 z.1
            rw [← Hs1.out] at hle
            generalize B8 z.1 = s3 at hle e2
            cases hv : leS y.1 z.1 with
            | false =>
              rw [hv] at hle
              have hki : k < i := by
                rcases Nat.lt_or_ge k i with h | h
                · exact h
                · obtain rfl : k = i := by omega
                  exact absurd (show lbOk l k from ⟨by rw [HY.out]; exact Hnm.out, by rw [HY.out]; exact Hwd.out, fun _ => by rw [HY.out, hgz]; exact hv⟩) (Hbad.out hkn)
              clear hgz hz hv e0 e1
              go_wp2
              go_quiet (fail)
              go_wp2
              go_roundw
              case rel => exact ⟨k + 1, by omega, by go_num, Below.drewN HB4.out _⟩
              case measure => simp [intOf]; omega
            | true =>
              rw [hv] at hle
              have hki : k = i := by
                rcases Nat.lt_or_ge k i with h | h
                · have := (Hok.out k h).2.2 (by omega)
                  rw [HY.out, hgz, hv] at this
                  cases this
                · omega
              subst hki
              have Hcode := Lib.hid (show lbCode l k = 2 from by unfold lbCode; rw [HY.out, Hnm.out, Hwd.out]; simp)
              clear hgz hz hv e0 e1
              go_wp2
              go_quiet (fail)
              go_wp2
              go_ret
              exact LPost.bad (by rw [Hcode.out]) hkn (Below.drewN HB4.out _) rfl
    · obtain rfl : k = n := by omega
      obtain rfl : i = k := by omega
      go_wp2
      go_ret
      exact ⟨fun _ => rfl, fun h => absurd h (Nat.lt_irrefl _), Hbel.out⟩

end Go.Proofs.YthgefobcohlegaaGreatDoor
