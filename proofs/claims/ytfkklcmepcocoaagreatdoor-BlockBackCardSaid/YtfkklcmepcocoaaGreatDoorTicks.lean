/- wave's steps and Ticks by contracts: for right ticks, where there is room. -/
import Derived.Test.YtfkklcmepcocoaaGreatDoorWavePut
namespace Go.Proofs.YtfkklcmepcocoaaGreatDoor
open Go.RowKit
set_option linter.unusedVariables false

def Tick (t : Int) : Prop := -1099511627776 ≤ t ∧ t ≤ 1099511627776
/-- What is put of tick number k. -/
def stepAt (l : List Int) (k : Nat) : Int := if k = 0 then l.getD 0 0 else if k = 1 then l.getD 1 0 - l.getD 0 0 else l.getD k 0 - l.getD (k - 1) 0 - (l.getD (k - 1) 0 - l.getD (k - 2) 0)
def stepsL (l : List Int) : List Int := (List.range l.length).map (stepAt l)
theorem stepsL_len (l : List Int) : (stepsL l).length = l.length := by simp [stepsL]
theorem stepsL_get (l : List Int) (k : Nat) (h : k < l.length) : (stepsL l)[k]? = some (stepAt l k) := by simp [stepsL, h]
theorem getD_of {l : List Int} {k : Nat} {y : Int} (h : l[k]? = some y) : l.getD k 0 = y := by rw [List.getD_eq_getElem?_getD, h]; rfl
theorem int_one (xs : List Int) : ∀ u ∈ xs.map (Value.int .i64), u.oneCell' = true := by
  intro u hu
  obtain ⟨x, _, rfl⟩ := List.mem_map.1 hu
  rfl
theorem infoInt : (Tryz.prog.info? 3).map (fun i => (i.zero, i.size, i.bytes)) = some (some (.int .i64 0), 1, 8) := by kernel_rfl

/-- One element laid in a block of its own reads as that element. -/
theorem Rd.one (w : World) (t : TypeId) (u : Value) : Rd (w.alloc (.cells #[u] t)) (w.alloc (.cells #[u] t)).heap.size 1 (some ⟨w.heap.size, 0, none⟩) 1 [u] :=
  ⟨rfl, fun _ => ⟨_, _, rfl, by simp, fun j v hv => by rw [Nat.zero_add, (Blk.new w _ _).cell]; simpa using hv⟩⟩

set_option maxRecDepth 100000 in
set_option maxHeartbeats 4000000 in
theorem steps_any (A : Option Addr) (n c : Nat) (l : List Int) (w : World) (hA : Rd w w.heap.size 1 A n (l.map (Value.int .i64))) (hn : n ≤ 100000) (hl : ∀ t ∈ l, Tick t) :
    Calls Tryz.prog 167 #[.slice A n c] w fun e w' => ∃ v, e = .returned v ∧ w'.ownsRow w.heap.size 3 1 v n ((stepsL l).map (Value.int .i64)) ∧ Below w.heap.size w w' := by
  obtain ⟨i0, hi, hz0, hz1, hz2⟩ := info_parts infoInt
  have hlen : l.length = n := by have := hA.1; simp at this; omega
  have Hi := Lib.hid hi; have Hz0 := Lib.hid hz0; have Hz1 := Lib.hid hz1; have Hz2 := Lib.hid hz2; have Hlen := Lib.hid hlen; have Hl := Lib.hid hl
  clear hi hz0 hz1 hz2 hlen hl
  go_enter Tryz.func167, Tryz.ntmps167
  go_wp2
  go_loopw [3, 4, 5, 10] (fun v la st i wr => ∃ (k : Nat) (a b : Int), k ≤ n ∧ i = .int .i64 k ∧ la = .int .i64 a ∧ st = .int .i64 b ∧ (-1099511627776 ≤ a ∧ a ≤ 1099511627776) ∧ (-2199023255552 ≤ b ∧ b ≤ 2199023255552) ∧
      (0 < k → a = l.getD (k - 1) 0) ∧ (1 < k → b = l.getD (k - 1) 0 - l.getD (k - 2) 0) ∧ wr.ownsRow w.heap.size 3 1 v k (((stepsL l).take k).map (Value.int .i64)) ∧ Below w.heap.size w wr) (fun _ _ _ i _ => n - (intOf i).toNat)
  case atStart => exact ⟨0, 0, 0, Nat.zero_le _, rfl, rfl, rfl, by omega, by omega, by omega, by omega, World.ownsRow_nil _ _ _ _, Below.refl _ _⟩
  case round =>
    obtain ⟨k, a, b, hk, rfl, rfl, rfl, ha, hb, hav, hbv, hown, hbel⟩ := hrel
    obtain ⟨ha0, ha1⟩ := ha
    obtain ⟨hb0, hb1⟩ := hb
    have Hav := Lib.hid hav; have Hbv := Lib.hid hbv; have Hown := Lib.hid hown; have Hbel := Lib.hid hbel
    clear hav hbv hown hbel
    by_cases hkn : k < n
    · obtain ⟨bb, off, t, rfl, had, hy, e0⟩ := hA.at1 hkn
      have e0' := (Hbel.out.cell (p := ⟨bb, off + k, none⟩) had).trans e0
      obtain ⟨ht0, ht1⟩ := Hl.out t (List.mem_of_getElem? hy)
      have hg := getD_of hy
      have hst := stepsL_get l k (by rw [Hlen.out]; exact hkn)
      have htk : (stepsL l).take (k + 1) = (stepsL l).take k ++ [stepAt l k] := take_snoc hst
      have Hhy := Lib.hid hy; have Hg := Lib.hid hg; have Htk := Lib.hid htk
      clear e0 hy hg hst htk
      have hk63 : k + 1 ≤ maxLen := by unfold maxLen; omega
      have hk8 : (k + 1) * 8 ≤ 140737488355328 := by omega
      have hbs : w.heap.size ≤ wr.heap.size := Hbel.out.size
      have hsz : ∀ u : Value, w.heap.size ≤ (wr.alloc (.cells #[u] 3)).heap.size := fun u => by simp; omega
      have Hsz := Lib.hid hsz; clear hsz
      -- what the append of x leaves
      have rest : ∀ (x : Int) (wa : World) (v v' : Value), x = stepAt l k → wr.ownsRow w.heap.size 3 1 v k (((stepsL l).take k).map (Value.int .i64)) →
          wa.ownsRow w.heap.size 3 1 v' (k + 1) (((stepsL l).take k).map (Value.int .i64) ++ [.int .i64 x]) → (wr.alloc (.cells #[.int .i64 x] 3)).grownBy wa v.ownBlock →
          wa.ownsRow w.heap.size 3 1 v' (k + 1) (((stepsL l).take (k + 1)).map (Value.int .i64)) ∧ Below w.heap.size w wa := by
        intro x wa v v' hx h0 h1 h2
        refine ⟨by rw [Htk.out, List.map_append, ← hx]; exact h1, ?_⟩
        exact Below.grown (Below.alloc Hbel.out hbs _) h2 (by simp; omega) (fun q hq => (own_lt h0 q hq).1)
      have Hrest := Lib.hid rest; clear rest
      have hc : k = 0 ∨ k = 1 ∨ 2 ≤ k := by omega
      rcases hc with hc | hc | hc
      · have b0 : ((k : Int) == 0) = true := by simp [hc]
        have hx : t = stepAt l k := by unfold stepAt; rw [if_pos hc, ← Hg.out, hc]
        have Hc := Lib.hid hc; have Hx := Lib.hid hx
        clear hc hx
        go_wp2_with (at_builtin; refine wpList_append_rd _ rfl (.tmp 29) (.tmp 31) _ rfl w.heap.size 3 i0 (.int .i64 0) 1 8 Tryz.underlying193 Hi.out Hz0.out Hz1.out Hz2.out rfl (by decide) _ k _ rfl (Hown.out.alloc _) _ _ 1 1 [.int .i64 t] rfl (Rd.one wr 3 (.int .i64 t)) (int_one [t]) hk63 hk8 (Hsz.out _) ?_; intro v' wa hown' hgr hat; obtain ⟨r1, r2⟩ := Hrest.out t wa _ v' Hx.out Hown.out hown' hgr; have R1 := Lib.hid r1; have R2 := Lib.hid r2; clear r1 r2 hown' hgr hat)
        go_roundw
        case rel => exact ⟨k + 1, t, b, by omega, by go_num, rfl, rfl, ⟨ht0, ht1⟩, ⟨hb0, hb1⟩, fun _ => Hg.out.symm, fun h => absurd Hc.out (by omega), R1.out, R2.out⟩
        case measure => simp [intOf]; omega
      · have b0 : ((k : Int) == 0) = false := by rw [beq_eq_false_iff_ne]; omega
        have b1 : ((k : Int) == 1) = true := by simp [hc]
        have hx : t - a = stepAt l k := by
          unfold stepAt
          rw [if_neg (by omega), if_pos hc, ← Hg.out, Hav.out (by omega), hc]
        have hst2 : t - a = l.getD (k + 1 - 1) 0 - l.getD (k + 1 - 2) 0 := by
          rw [← Hg.out, Hav.out (by omega)]
          have e1 : k + 1 - 1 = k := by omega
          have e2 : k + 1 - 2 = k - 1 := by omega
          rw [e1, e2]
        have Hc := Lib.hid hc; have Hx := Lib.hid hx; have Hst2 := Lib.hid hst2
        clear hc hx hst2
        go_wp2_with (at_builtin; refine wpList_append_rd _ rfl (.tmp 35) (.tmp 39) _ rfl w.heap.size 3 i0 (.int .i64 0) 1 8 Tryz.underlying193 Hi.out Hz0.out Hz1.out Hz2.out rfl (by decide) _ k _ rfl (Hown.out.alloc _) _ _ 1 1 [.int .i64 (t - a)] rfl (Rd.one wr 3 (.int .i64 (t - a))) (int_one [t - a]) hk63 hk8 (Hsz.out _) ?_; intro v' wa hown' hgr hat; obtain ⟨r1, r2⟩ := Hrest.out (t - a) wa _ v' Hx.out Hown.out hown' hgr; have R1 := Lib.hid r1; have R2 := Lib.hid r2; clear r1 r2 hown' hgr hat)
        go_roundw
        case rel => exact ⟨k + 1, t, t - a, by omega, by go_num, rfl, rfl, ⟨ht0, ht1⟩, ⟨by omega, by omega⟩, fun _ => Hg.out.symm, fun _ => Hst2.out, R1.out, R2.out⟩
        case measure => simp [intOf]; omega
      · have b0 : ((k : Int) == 0) = false := by rw [beq_eq_false_iff_ne]; omega
        have b1 : ((k : Int) == 1) = false := by rw [beq_eq_false_iff_ne]; omega
        have hx : t - a - b = stepAt l k := by
          unfold stepAt
          rw [if_neg (by omega), if_neg (by omega), ← Hg.out, Hav.out (by omega), Hbv.out (by omega)]
        have hst2 : t - a = l.getD (k + 1 - 1) 0 - l.getD (k + 1 - 2) 0 := by
          rw [← Hg.out, Hav.out (by omega)]
          have e1 : k + 1 - 1 = k := by omega
          have e2 : k + 1 - 2 = k - 1 := by omega
          rw [e1, e2]
        have Hx := Lib.hid hx; have Hst2 := Lib.hid hst2
        clear hx hst2
        go_wp2_with (at_builtin; refine wpList_append_rd _ rfl (.tmp 16) (.tmp 22) _ rfl w.heap.size 3 i0 (.int .i64 0) 1 8 Tryz.underlying193 Hi.out Hz0.out Hz1.out Hz2.out rfl (by decide) _ k _ rfl (Hown.out.alloc _) _ _ 1 1 [.int .i64 (t - a - b)] rfl (Rd.one wr 3 (.int .i64 (t - a - b))) (int_one [t - a - b]) hk63 hk8 (Hsz.out _) ?_; intro v' wa hown' hgr hat; obtain ⟨r1, r2⟩ := Hrest.out (t - a - b) wa _ v' Hx.out Hown.out hown' hgr; have R1 := Lib.hid r1; have R2 := Lib.hid r2; clear r1 r2 hown' hgr hat)
        go_roundw
        case rel => exact ⟨k + 1, t, t - a, by omega, by go_num, rfl, rfl, ⟨ht0, ht1⟩, ⟨by omega, by omega⟩, fun _ => Hg.out.symm, fun _ => Hst2.out, R1.out, R2.out⟩
        case measure => simp [intOf]; omega
    · obtain rfl : k = n := by omega
      have e : (stepsL l).take k = stepsL l := List.take_of_length_le (by rw [stepsL_len, Hlen.out]; exact Nat.le_refl _)
      have hown2 := Hown.out
      rw [e] at hown2
      have Hown2 := Lib.hid hown2
      clear hown2 e hA
      go_wp2
      go_ret
      exact ⟨_, rfl, Hown2.out, Hbel.out⟩
end Go.Proofs.YtfkklcmepcocoaaGreatDoor
