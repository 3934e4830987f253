/- sums.Steps by contracts: bounds that are none: an error; else a sum for each step. -/
import Derived.Test.YtiohnehccmbplaaDoorSumsSame
import Derived.Test.YtiohnehccmbplaaDoorBetween
import Derived.Test.YtiohnehccmbplaaDoorCode
import Derived.BigQuiet
namespace Go.Proofs.YtiohnehccmbplaaDoor
open Go.RowKit
set_option linter.unusedVariables false

def smL (s : Sm) : List Value := [.int .i64 s.c, .int .u64 s.lo, .int .u64 s.hi, .int .u64 s.la, .int .u64 s.to]
theorem infoSum : (Tryd.prog.info? 44).map (fun i => (i.zero, i.size, i.bytes)) = some (some (.agg #[.int .i64 0, .int .u64 0, .int .u64 0, .int .u64 0, .int .u64 0]), 5, 40) := by kernel_rfl
theorem smL_one (ss : List Sm) : ∀ u ∈ ss.flatMap smL, u.oneCell' = true := by
  intro u hu
  obtain ⟨p, _, hp⟩ := List.mem_flatMap.1 hu
  simp [smL] at hp
  rcases hp with rfl | rfl | rfl | rfl | rfl <;> rfl
theorem Rd.one5 (w : World) (t : TypeId) (s : Sm) : Rd (w.alloc (.cells #[.int .i64 s.c, .int .u64 s.lo, .int .u64 s.hi, .int .u64 s.la, .int .u64 s.to] t)) (w.alloc (.cells #[.int .i64 s.c, .int .u64 s.lo, .int .u64 s.hi, .int .u64 s.la, .int .u64 s.to] t)).heap.size 5 (some ⟨w.heap.size, 0, none⟩) 1 ([s].flatMap smL) :=
  ⟨rfl, fun _ => ⟨_, _, rfl, by simp, fun j v hv => by rw [Nat.zero_add, (Blk.new w _ _).cell]; simpa [smL] using hv⟩⟩
theorem Rd.at5 {w : World} {B n : Nat} {A : Option Addr} {ys : List Sm} (h : Rd w B 5 A n (ys.flatMap smL)) {k : Nat} (hk : k < n) :
    ∃ b o y, A = some ⟨b, o, none⟩ ∧ b < B ∧ ys[k]? = some y ∧ w.cell? ⟨b, o + k * 5, none⟩ = some (.int .i64 y.c) ∧ w.cell? ⟨b, o + k * 5 + 1, none⟩ = some (.int .u64 y.lo) ∧ w.cell? ⟨b, o + k * 5 + 2, none⟩ = some (.int .u64 y.hi) ∧
      w.cell? ⟨b, o + k * 5 + 3, none⟩ = some (.int .u64 y.la) ∧ w.cell? ⟨b, o + k * 5 + 4, none⟩ = some (.int .u64 y.to) := by
  obtain ⟨b, o, e, hb, hc⟩ := h.2 (by omega)
  have hl : k < ys.length := by have := h.1; rw [flat_len _ 5 (fun _ => rfl)] at this; omega
  have hy : ys[k]? = some ys[k] := List.getElem?_eq_getElem hl
  refine ⟨b, o, ys[k], e, hb, hy, ?_, ?_, ?_, ?_, ?_⟩
  · exact hc (k * 5) _ (flat_get smL 5 (fun _ => rfl) ys k 0 ys[k] hy (by omega))
  · rw [Nat.add_assoc]; exact hc (k * 5 + 1) _ (flat_get smL 5 (fun _ => rfl) ys k 1 ys[k] hy (by omega))
  · rw [Nat.add_assoc]; exact hc (k * 5 + 2) _ (flat_get smL 5 (fun _ => rfl) ys k 2 ys[k] hy (by omega))
  · rw [Nat.add_assoc]; exact hc (k * 5 + 3) _ (flat_get smL 5 (fun _ => rfl) ys k 3 ys[k] hy (by omega))
  · rw [Nat.add_assoc]; exact hc (k * 5 + 4) _ (flat_get smL 5 (fun _ => rfl) ys k 4 ys[k] hy (by omega))

/-- The sum of step i. -/
def stepS (ps : List (Int × Int)) (f s : Int) (i : Nat) : Sm := ofS (bitsOf (betL (f + (i : Int) * s) (f + (i : Int) * s + s - 1) ps))
def stepsS (ps : List (Int × Int)) (f s : Int) (n : Nat) : List Sm := (List.range n).map (stepS ps f s)
theorem stepsS_len (ps : List (Int × Int)) (f s : Int) (n : Nat) : (stepsS ps f s n).length = n := by simp [stepsS]
theorem stepsS_get (ps : List (Int × Int)) (f s : Int) (n k : Nat) (h : k < n) : (stepsS ps f s n)[k]? = some (stepS ps f s k) := by simp [stepsS, h]
def StepsOk (f s n : Int) : Prop := 1 ≤ s ∧ s ≤ 100000 ∧ 0 ≤ n ∧ n ≤ 120 ∧ -1099511627776 ≤ f ∧ f ≤ 1099511627776

set_option maxHeartbeats 1000000 in
theorem steps_bad {es : Nat → Addr} {B : Nat} (A : Option Addr) (m c : Nat) (f s n : Int) (w : World) (hS : Sents es B w) (hB : B ≤ w.heap.size) (hbad : s < 1 ∨ 100000 < s ∨ n < 0 ∨ 120 < n ∨ f < -1099511627776 ∨ 1099511627776 < f) :
    Calls Tryd.prog 29 #[.slice A m c, .int .i64 f, .int .i64 s, .int .i64 n] w fun e w' => e = .returned (.tuple #[.slice none 0 0, sentV (es 1)]) ∧ Below w.heap.size w w' := by
  have g1 : w.cell? ⟨1, 0, none⟩ = some (sentV (es 1)) := hS.var 1 (by decide)
  clear hS
  rcases hbad with h | h | h | h | h | h
  · go_enter Tryd.func29, Tryd.ntmps29
    go_wp2
    go_quiet (fail)
    go_wp2
    go_ret2
    exact ⟨rfl, Below.drewN (Below.refl _ _) _⟩
  all_goals
    by_cases h1 : s < 1
    · go_enter Tryd.func29, Tryd.ntmps29
      go_wp2
      go_quiet (fail)
      go_wp2
      go_ret2
      exact ⟨rfl, Below.drewN (Below.refl _ _) _⟩
    by_cases h2 : 100000 < s
    · go_enter Tryd.func29, Tryd.ntmps29
      go_wp2
      go_quiet (fail)
      go_wp2
      go_ret2
      exact ⟨rfl, Below.drewN (Below.refl _ _) _⟩
    by_cases h3 : n < 0
    · go_enter Tryd.func29, Tryd.ntmps29
      go_wp2
      go_quiet (fail)
      go_wp2
      go_ret2
      exact ⟨rfl, Below.drewN (Below.refl _ _) _⟩
    by_cases h4 : 120 < n
    · go_enter Tryd.func29, Tryd.ntmps29
      go_wp2
      go_quiet (fail)
      go_wp2
      go_ret2
      exact ⟨rfl, Below.drewN (Below.refl _ _) _⟩
    by_cases h5 : f < -1099511627776
    · go_enter Tryd.func29, Tryd.ntmps29
      go_wp2
      go_quiet (fail)
      go_wp2
      go_ret2
      exact ⟨rfl, Below.drewN (Below.refl _ _) _⟩
    by_cases h6 : 1099511627776 < f
    · go_enter Tryd.func29, Tryd.ntmps29
      go_wp2
      go_quiet (fail)
      go_wp2
      go_ret2
      exact ⟨rfl, Below.drewN (Below.refl _ _) _⟩
    omega

theorem mul_bd {k s : Int} (h0 : 0 ≤ k) (h1 : k ≤ 120) (h2 : 1 ≤ s) (h3 : s ≤ 100000) : 0 ≤ k * s ∧ k * s ≤ 12000000 := by
  have a := Int.mul_le_mul h1 h3 (by omega) (by omega : (0 : Int) ≤ 120)
  have b := Int.mul_nonneg h0 (by omega : 0 ≤ s)
  omega

set_option maxRecDepth 100000 in
set_option maxHeartbeats 4000000 in
theorem steps_ok (A : Option Addr) (m c : Nat) (ps : List (Int × Int)) (f s : Int) (n : Nat) (w : World) (hA : Rd w w.heap.size 2 A m (ptsC ps)) (hm : m ≤ 100000) (hok : StepsOk f s n) :
    Calls Tryd.prog 29 #[.slice A m c, .int .i64 f, .int .i64 s, .int .i64 n] w fun e w' => ∃ v, e = .returned (.tuple #[v, .nilIface]) ∧ w'.ownsRow w.heap.size 44 5 v n ((stepsS ps f s n).flatMap smL) ∧ Below w.heap.size w w' := by
  obtain ⟨i0, hi, hz0, hz1, hz2⟩ := info_parts infoSum
  obtain ⟨s1, s2, n1, n2, f1, f2⟩ := hok
  have hlen : ps.length = m := by have := hA.1; rw [flat_len _ 2 (fun _ => rfl)] at this; omega
  have Hi := Lib.hid hi; have Hz0 := Lib.hid hz0; have Hz1 := Lib.hid hz1; have Hz2 := Lib.hid hz2; have HA := Lib.hid hA; have Hlen := Lib.hid hlen
  clear hi hz0 hz1 hz2 hA hlen
  go_enter Tryd.func29, Tryd.ntmps29
  go_wp2
  go_loopw [10, 37] (fun v i wr => ∃ k : Nat, k ≤ n ∧ i = .int .i64 k ∧ wr.ownsRow w.heap.size 44 5 v k (((stepsS ps f s n).take k).flatMap smL) ∧ Below w.heap.size w wr) (fun _ i _ => n - (intOf i).toNat)
  case atStart => exact ⟨0, Nat.zero_le _, rfl, World.ownsRow_nil _ _ _ _, Below.refl _ _⟩
  case round =>
    obtain ⟨k, hk, rfl, hown, hbel⟩ := hrel
    have hws : w.heap.size ≤ wr.heap.size := hbel.size
    have Hown := Lib.hid hown; have Hbel := Lib.hid hbel
    clear hown hbel
    by_cases hkn : k < n
    · obtain ⟨m1, m2⟩ := mul_bd (k := (k : Int)) (s := s) (by omega) (by omega) s1 s2
      have htk := take_snoc (stepsS_get ps f s n k hkn)
      have Htk := Lib.hid htk
      clear htk
      have hk63 : k + 1 ≤ maxLen := by unfold maxLen; omega
      have hk8 : (k + 1) * 40 ≤ 140737488355328 := by omega
      go_wp2_with fail
      refine (between_any A m c ps _ _ _ ((HA.out.below Hbel.out).more hws) hm).mono ?_
      rintro e w1 ⟨v1, rfl, hown1, hb1⟩
      obtain ⟨A1, c1, rfl, hc1, _, hrd1⟩ := own_form hown1
      have hbl1 : (betL (f + (k : Int) * s) (f + (k : Int) * s + s - 1) ps).length ≤ 100000 := by
        have := betL_le (f + (k : Int) * s) (f + (k : Int) * s + s - 1) ps
        rw [Hlen.out] at this; omega
      have Hrd1 := Lib.hid hrd1; have Hb1 := Lib.hid hb1
      clear hown1 hrd1 hb1 hc1
      go_wp2_with fail
      refine (of_any A1 _ c1 _ w1 Hrd1.out hbl1).mono ?_
      rintro e w2 ⟨rfl, hb2⟩
      have hst : ofS (bitsOf (betL (f + (k : Int) * s) (f + (k : Int) * s + s - 1) ps)) = stepS ps f s k := rfl
      rw [hst]
      clear hst
      generalize hq : stepS ps f s k = q
      have hb12 : Below w.heap.size w w2 := Below.call (Below.call Hbel.out Hb1.out hws) hb2 (Nat.le_trans hws Hb1.out.size)
      have hown2 := own_below (own_below Hown.out Hb1.out (Nat.le_refl _)) hb2 (Nat.le_refl _)
      have hw2 : w.heap.size ≤ w2.heap.size := hb12.size
      have hsz : w.heap.size ≤ (w2.alloc (.cells #[.int .i64 q.c, .int .u64 q.lo, .int .u64 q.hi, .int .u64 q.la, .int .u64 q.to] 44)).heap.size := by simp; omega
      have hbx : Below w.heap.size w (w2.alloc (.cells #[.int .i64 q.c, .int .u64 q.lo, .int .u64 q.hi, .int .u64 q.la, .int .u64 q.to] 44)) := Below.alloc hb12 hw2 _
      have hrdq := Rd.one5 w2 44 q
      have Hq := Lib.hid hq; have Hown2 := Lib.hid hown2; have Hsz := Lib.hid hsz; have Hbx := Lib.hid hbx; have Hrdq := Lib.hid hrdq
      clear hq hb12 hb2 hown2 hsz hbx hrdq
      go_wp2_with (at_builtin; refine wpList_append_rd _ rfl (.tmp 45) (.tmp 54) _ rfl w.heap.size 44 i0 (.agg #[.int .i64 0, .int .u64 0, .int .u64 0, .int .u64 0, .int .u64 0]) 5 40 Tryd.underlying51 Hi.out Hz0.out Hz1.out Hz2.out rfl (by decide) _ k _ rfl (Hown2.out.alloc _) _ _ 1 1 ([q].flatMap smL) rfl Hrdq.out (smL_one [q]) hk63 hk8 Hsz.out ?_; intro v' wa hown' hgr hat; have Hown' := Lib.hid hown'; have Hba := Lib.hid (Below.grown Hbx.out hgr Hsz.out (fun g hg => (own_lt Hown2.out g hg).1)); clear hown' hgr hat)
      go_roundw
      case rel => exact ⟨k + 1, by omega, by go_num, by rw [Htk.out, List.flatMap_append, Hq.out]; exact Hown'.out, Hba.out⟩
      case measure => simp [intOf]; omega
    · obtain rfl : k = n := by omega
      have e : (stepsS ps f s k).take k = stepsS ps f s k := List.take_of_length_le (by rw [stepsS_len]; exact Nat.le_refl _)
      have hown2 := Hown.out
      rw [e] at hown2
      have Hown2 := Lib.hid hown2
      clear hown2 e
      go_wp2
      go_ret2
      exact ⟨_, rfl, Hown2.out, Hbel.out⟩
end Go.Proofs.YtiohnehccmbplaaDoor
