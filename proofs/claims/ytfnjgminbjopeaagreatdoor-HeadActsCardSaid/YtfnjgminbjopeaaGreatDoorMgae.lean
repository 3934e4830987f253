/- wave's steps and Ticks by contracts: for right ticks, where there is room. -/
import Derived.Test.YtfnjgminbjopeaaGreatDoorMgac
import Derived.Test.YtfnjgminbjopeaaGreatDoorBetween
import Derived.Test.YtfnjgminbjopeaaGreatDoorCode
import Derived.BigQuiet
namespace Go.Proofs.YtfnjgminbjopeaaGreatDoor
open Go.RowKit
set_option linter.unusedVariables false

def Tick (t : Int) : Prop := -1099511627776 ≤ t ∧ t ≤ 1099511627776
/-- What is put of tick number k. -/
def stepAt (l : List Int) (k : Nat) : Int := if k = 0 then l.getD 0 0 else if k = 1 then l.getD 1 0 - l.getD 0 0 else l.getD k 0 - l.getD (k - 1) 0 - (l.getD (k - 1) 0 - l.getD (k - 2) 0)
def stepsL (l : List Int) : List Int := (List.range l.length).map (stepAt l)
theorem stepsL_len (l : List Int) : (stepsL l).length = l.length := by simp [stepsL]
theorem stepsL_get (l : List Int) (k : Nat) (h : k < l.length) : (stepsL l)[k]? = some (stepAt l k) := by simp [stepsL, h]
theorem getD_of {l : List Int} {k : Nat} {y : Int} (h : l[k]? = some y) : l.getD k 0 = y := by rw [List.getD_eq_getElem?_getD, h]; rfl
theorem int_one (xs : List Int) : ∀ u ∈ xs.map (Value.int .i64), u.oneCell' = true := by
  intro u hu
  obtain ⟨x, _, rfl⟩ := List.mem_map.1 hu
  rfl
theorem infoInt : (Tryz.prog.info? 3).map (fun i => (i.zero, i.size, i.bytes)) = some (some (.int .i64 0), 1, 8) := by kernel_rfl

/-- One element laid in a block of its own reads as that element. -/
theorem Rd.one (w : World) (t : TypeId) (u : Value) : Rd (w.alloc (.cells #[u] t)) (w.alloc (.cells #[u] t)).heap.size 1 (some ⟨w.heap.size, 0, none⟩) 1 [u] :=
  ⟨rfl, fun _ => ⟨_, _, rfl, by simp, fun j v hv => by rw [Nat.zero_add, (Blk.new w _ _).cell]; simpa using hv⟩⟩

end Go.Proofs.YtfnjgminbjopeaaGreatDoor

namespace Go.Proofs.YtfnjgminbjopeaaGreatDoor
open Go.RowKit
set_option linter.unusedVariables false

def wavesL (l : List Int) : List Bool := l.flatMap waveBits
def ticksBits (l : List Int) : List Bool := wavesL (stepsL l)
theorem wavesL_next {l : List Int} {k : Nat} {y : Int} (h : l[k]? = some y) : wavesL (l.take (k + 1)) = wavesL (l.take k) ++ waveBits y := by
  rw [take_snoc h]; simp [wavesL]
theorem wavesL_take (l : List Int) (k : Nat) : (wavesL (l.take k)).length ≤ (wavesL l).length := by
  have : wavesL l = wavesL (l.take k) ++ wavesL (l.drop k) := by unfold wavesL; rw [← List.flatMap_append, List.take_append_drop]
  rw [this, List.length_append]; omega

end Go.Proofs.YtfnjgminbjopeaaGreatDoor

namespace Go.Proofs.YtfnjgminbjopeaaGreatDoor
open Go.RowKit
set_option linter.unusedVariables false

/-- Point i is right: a tick, and behind the one ahead. -/
def okAt (l : List (Int × Int)) (i : Nat) : Prop := Tick (l.getD i (0, 0)).1 ∧ (0 < i → (l.getD (i - 1) (0, 0)).1 < (l.getD i (0, 0)).1)
/-- What is wrong with it: bound, or old. -/
def codeAt (l : List (Int × Int)) (i : Nat) : Nat := if -1099511627776 ≤ (l.getD i (0, 0)).1 ∧ (l.getD i (0, 0)).1 ≤ 1099511627776 then 7 else 1
instance (l : List (Int × Int)) (i : Nat) : Decidable (okAt l i) := by unfold okAt Tick; infer_instance
theorem getD_pt {l : List (Int × Int)} {i : Nat} {y : Int × Int} (h : l[i]? = some y) : l.getD i (0, 0) = y := by rw [List.getD_eq_getElem?_getD, h]; rfl
theorem first_pt (l : List (Int × Int)) : ∀ n, ∃ i, i ≤ n ∧ (∀ j, j < i → okAt l j) ∧ (i < n → ¬ okAt l i)
  | 0 => ⟨0, Nat.le_refl _, fun j h => absurd h (Nat.not_lt_zero _), fun h => absurd h (Nat.not_lt_zero _)⟩
  | n + 1 => by
    obtain ⟨i, h1, h2, h3⟩ := first_pt l n
    by_cases hi : i < n
    · exact ⟨i, by omega, h2, fun _ => h3 hi⟩
    · obtain rfl : i = n := by omega
      by_cases ho : okAt l i
      · exact ⟨i + 1, Nat.le_refl _, fun j hj => by
          rcases Nat.lt_or_ge j i with h | h
          · exact h2 j h
          · obtain rfl : j = i := by omega
            exact ho, fun h => absurd h (Nat.lt_irrefl _)⟩
      · exact ⟨i, by omega, h2, fun _ => ho⟩

/-- What Check answers. -/
def KPost (es : Nat → Addr) (l : List (Int × Int)) (n i : Nat) (w : World) (e : Ending) (w' : World) : Prop :=
  (i = n → e = .returned .nilIface) ∧
  (i < n → ∃ pb, e = .returned (faultV ⟨pb, 0, none⟩) ∧ w.heap.size ≤ pb ∧ pb < w'.heap.size ∧ w'.cell? ⟨pb, 0, none⟩ = some (.int .i64 i) ∧ w'.cell? ⟨pb, 1, none⟩ = some (sentV (es (codeAt l i)))) ∧ Below w.heap.size w w'
theorem KPost.bad {es : Nat → Addr} {l : List (Int × Int)} {n i cc : Nat} {w wr : World} {o : Obj} {e : Ending} {W : World} (hW : W = (wr.alloc o).alloc (.cells #[.int .i64 i, sentV (es cc)] 83)) (hin : i < n) (hcode : codeAt l i = cc) (hb : Below w.heap.size w wr) (he : e = .returned (faultV ⟨wr.heap.size + 1, 0, none⟩)) : KPost es l n i w e W := by
  have hs := hb.size
  have HB := Blk.new (wr.alloc o) 83 #[.int .i64 i, sentV (es cc)]
  rw [← hW, show (wr.alloc o).heap.size = wr.heap.size + 1 by simp] at HB
  have hb2 : Below w.heap.size w W := by
    rw [hW]
    exact Below.alloc (Below.alloc hb hs _) (by simp; omega) _
  exact ⟨fun h => absurd h (by omega), fun _ => ⟨wr.heap.size + 1, he, by omega, HB.lt, HB.cell 0, by rw [hcode]; exact HB.cell 1⟩, hb2⟩
theorem KPost.drewN {es : Nat → Addr} {l : List (Int × Int)} {n i : Nat} {w W : World} {e : Ending} (h : KPost es l n i w e W) (k : Nat) : KPost es l n i w e (W.drewN k) := ⟨h.1, fun hi => by
  obtain ⟨pb, h1, h2, h3, h4, h5⟩ := h.2.1 hi
  exact ⟨pb, h1, h2, h3, h4, h5⟩, Below.drewN h.2.2 k⟩

end Go.Proofs.YtfnjgminbjopeaaGreatDoor

namespace Go.Proofs.YtfnjgminbjopeaaGreatDoor
open Go.RowKit
set_option linter.unusedVariables false

theorem samePoints_eq (A : Option Addr) (n c : Nat) (A' : Option Addr) (c' : Nat) (ps : List (Int × Int)) (w : World) (hA : Rd w w.heap.size 2 A n (ptsC ps)) (hA' : Rd w w.heap.size 2 A' n (ptsC ps)) (hn : n ≤ 100000) :
    Calls Tryz.prog 12 #[.slice A n c, .slice A' n c'] w fun e w' => e = .returned (.bool true) ∧ Below w.heap.size w w' := by
  have HA := Lib.hid hA; have HA' := Lib.hid hA'
  clear hA hA'
  go_enter Tryz.func12, Tryz.ntmps12
  go_wp2
  go_loopw [5] (fun i wr => ∃ k : Nat, k ≤ n ∧ i = .int .i64 k ∧ Below w.heap.size w wr) (fun i _ => n - (intOf i).toNat)
  case atStart => exact ⟨0, Nat.zero_le _, rfl, Below.refl _ _⟩
  case round =>
    obtain ⟨k, hk, rfl, hbel⟩ := hrel
    by_cases hkn : k < n
    · obtain ⟨b0, o0, y, hA0, had0, hy0, e0, e0b⟩ := HA.out.at2 hkn
      obtain ⟨b1, o1, z, hA1, had1, hz1, e1, e1b⟩ := HA'.out.at2 hkn
      obtain rfl : y = z := Option.some.inj (hy0.symm.trans hz1)
      subst hA0; subst hA1
      have x0 := (hbel.cell (p := ⟨b0, o0 + k * 2, none⟩) had0).trans e0
      have x1 := (hbel.cell (p := ⟨b0, o0 + k * 2 + 1, none⟩) had0).trans e0b
      have x2 := (hbel.cell (p := ⟨b1, o1 + k * 2, none⟩) had1).trans e1
      have x3 := (hbel.cell (p := ⟨b1, o1 + k * 2 + 1, none⟩) had1).trans e1b
      have Hbel := Lib.hid hbel
      clear hy0 hz1 e0 e1 e0b e1b hbel
      go_wp2
      go_quiet (fail)
      go_wp2
      go_roundw
      case rel => exact ⟨k + 1, by omega, by go_num, Below.drewN Hbel.out _⟩
      case measure => simp [intOf]; omega
    · obtain rfl : k = n := by omega
      have Hbel := Lib.hid hbel
      clear hbel
      go_wp2
      go_ret
      exact ⟨rfl, Hbel.out⟩

theorem isTick_in (t : Int) (h1 : -1099511627776 ≤ t) (h2 : t ≤ 1099511627776) (w : World) : Calls Tryz.prog 33 #[.int .i64 t] w fun e w' => e = .returned (.bool true) ∧ w = w' := by
  go_enter Tryz.func33, Tryz.ntmps33
  go_wp2
  go_ret
  exact ⟨rfl, rfl⟩
theorem isTick_out (t : Int) (h : ¬ (-1099511627776 ≤ t ∧ t ≤ 1099511627776)) (w : World) : Calls Tryz.prog 33 #[.int .i64 t] w fun e w' => e = .returned (.bool false) ∧ w = w' := by
  rcases (show t < -1099511627776 ∨ (-1099511627776 ≤ t ∧ 1099511627776 < t) by omega) with q | ⟨q, q2⟩
  · clear h
    go_enter Tryz.func33, Tryz.ntmps33
    go_wp2
    go_ret
    exact ⟨rfl, rfl⟩
  · have q3 : decide (t ≤ 1099511627776) = false := decide_eq_false (by omega)
    clear h
    go_enter Tryz.func33, Tryz.ntmps33
    go_wp2
    go_ret
    exact ⟨by simp, rfl⟩
theorem Blk.duo2 {w : World} {b : Nat} {t : TypeId} {v1 v2 : Value} (h : Blk w b t #[v1, v2]) : w.cell? ⟨b, 0, none⟩ = some v1 ∧ w.cell? ⟨b, 1, none⟩ = some v2 := ⟨h.cell 0, h.cell 1⟩
/-- What PointsFault answers of some points whose first wrong one is i (n: none). -/
def pfV (l : List (Int × Int)) (n i : Nat) : Value := if i = n then .agg #[.int .i64 0, .int .i64 (-1)] else .agg #[.int .i64 ((codeAt l i : Nat) + 1 : Int), .int .i64 i]
theorem pfV_ok (l : List (Int × Int)) (n : Nat) : pfV l n n = .agg #[.int .i64 0, .int .i64 (-1)] := by unfold pfV; rw [if_pos rfl]
theorem pfV_bad (l : List (Int × Int)) (n i c : Nat) (h : i < n) (hc : codeAt l i = c) : pfV l n i = .agg #[.int .i64 ((c : Int) + 1), .int .i64 i] := by unfold pfV; rw [if_neg (by omega), hc]

end Go.Proofs.YtfnjgminbjopeaaGreatDoor
