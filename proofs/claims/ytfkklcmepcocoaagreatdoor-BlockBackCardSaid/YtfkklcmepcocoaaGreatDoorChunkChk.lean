/- chunk.Check and the reference's PointsFault by contracts. -/
import Derived.Test.YtfkklcmepcocoaaGreatDoorBetween
import Derived.Test.YtfkklcmepcocoaaGreatDoorTicksOk
import Derived.Test.YtfkklcmepcocoaaGreatDoorCode
import Derived.BigQuiet
namespace Go.Proofs.YtfkklcmepcocoaaGreatDoor
open Go.RowKit
set_option linter.unusedVariables false

/-- Point i is right: a tick, and behind the one ahead. -/
def okAt (l : List (Int × Int)) (i : Nat) : Prop := Tick (l.getD i (0, 0)).1 ∧ (0 < i → (l.getD (i - 1) (0, 0)).1 < (l.getD i (0, 0)).1)
/-- What is wrong with it: bound, or old. -/
def codeAt (l : List (Int × Int)) (i : Nat) : Nat := if -1099511627776 ≤ (l.getD i (0, 0)).1 ∧ (l.getD i (0, 0)).1 ≤ 1099511627776 then 7 else 1
instance (l : List (Int × Int)) (i : Nat) : Decidable (okAt l i) := by unfold okAt Tick; infer_instance
theorem getD_pt {l : List (Int × Int)} {i : Nat} {y : Int × Int} (h : l[i]? = some y) : l.getD i (0, 0) = y := by rw [List.getD_eq_getElem?_getD, h]; rfl
theorem first_pt (l : List (Int × Int)) : ∀ n, ∃ i, i ≤ n ∧ (∀ j, j < i → okAt l j) ∧ (i < n → ¬ okAt l i)
  | 0 => ⟨0, Nat.le_refl _, fun j h => absurd h (Nat.not_lt_zero _), fun h => absurd h (Nat.not_lt_zero _)⟩
  | n + 1 => by
    obtain ⟨i, h1, h2, h3⟩ := first_pt l n
    by_cases hi : i < n
    · exact ⟨i, by omega, h2, fun _ => h3 hi⟩
    · obtain rfl : i = n := by omega
      by_cases ho : okAt l i
      · exact ⟨i + 1, Nat.le_refl _, fun j hj => by
          rcases Nat.lt_or_ge j i with h | h
          · exact h2 j h
          · obtain rfl : j = i := by omega
            exact ho, fun h => absurd h (Nat.lt_irrefl _)⟩
      · exact ⟨i, by omega, h2, fun _ => ho⟩

/-- What Check answers. -/
def KPost (es : Nat → Addr) (l : List (Int × Int)) (n i : Nat) (w : World) (e : Ending) (w' : World) : Prop :=
  (i = n → e = .returned .nilIface) ∧
  (i < n → ∃ pb, e = .returned (faultV ⟨pb, 0, none⟩) ∧ w.heap.size ≤ pb ∧ pb < w'.heap.size ∧ w'.cell? ⟨pb, 0, none⟩ = some (.int .i64 i) ∧ w'.cell? ⟨pb, 1, none⟩ = some (sentV (es (codeAt l i)))) ∧ Below w.heap.size w w'
theorem KPost.bad {es : Nat → Addr} {l : List (Int × Int)} {n i cc : Nat} {w wr : World} {o : Obj} {e : Ending} {W : World} (hW : W = (wr.alloc o).alloc (.cells #[.int .i64 i, sentV (es cc)] 103)) (hin : i < n) (hcode : codeAt l i = cc) (hb : Below w.heap.size w wr) (he : e = .returned (faultV ⟨wr.heap.size + 1, 0, none⟩)) : KPost es l n i w e W := by
  have hs := hb.size
  have HB := Blk.new (wr.alloc o) 103 #[.int .i64 i, sentV (es cc)]
  rw [← hW, show (wr.alloc o).heap.size = wr.heap.size + 1 by simp] at HB
  have hb2 : Below w.heap.size w W := by
    rw [hW]
    exact Below.alloc (Below.alloc hb hs _) (by simp; omega) _
  exact ⟨fun h => absurd h (by omega), fun _ => ⟨wr.heap.size + 1, he, by omega, HB.lt, HB.cell 0, by rw [hcode]; exact HB.cell 1⟩, hb2⟩
theorem KPost.drewN {es : Nat → Addr} {l : List (Int × Int)} {n i : Nat} {w W : World} {e : Ending} (h : KPost es l n i w e W) (k : Nat) : KPost es l n i w e (W.drewN k) := ⟨h.1, fun hi => by
  obtain ⟨pb, h1, h2, h3, h4, h5⟩ := h.2.1 hi
  exact ⟨pb, h1, h2, h3, h4, h5⟩, Below.drewN h.2.2 k⟩

set_option maxRecDepth 100000 in
set_option maxHeartbeats 4000000 in
theorem check_any {es : Nat → Addr} {B : Nat} (A : Option Addr) (n c : Nat) (l : List (Int × Int)) (i : Nat) (w : World) (hS : SV es B w) (hB0 : B ≤ w.heap.size) (hA : Rd w w.heap.size 2 A n (ptsC l)) (hn : n ≤ 120) (hi : i ≤ n) (hok : ∀ j, j < i → okAt l j) (hbad : i < n → ¬ okAt l i) :
    Calls Tryz.prog 122 #[.slice A n c] w (KPost es l n i w) := by
  have hn' : (n : Int) ≤ 120 := by omega
  have HS := Lib.hid hS; have HA := Lib.hid hA; have Hok := Lib.hid hok; have Hbad := Lib.hid hbad
  clear hS hA hok hbad
  go_enter Tryz.func122, Tryz.ntmps122
  go_wp2
  go_loopw [11] (fun iv wr => ∃ k : Nat, k ≤ i ∧ iv = .int .i64 k ∧ Below w.heap.size w wr) (fun iv _ => n - (intOf iv).toNat)
  case atStart => exact ⟨0, Nat.zero_le _, rfl, Below.refl _ _⟩
  case round =>
    obtain ⟨k, hk, rfl, hbel⟩ := hrel
    have Hbel := Lib.hid hbel
    have hwr : w.heap.size ≤ wr.heap.size := hbel.size
    clear hbel
    by_cases hkn : k < n
    · obtain ⟨bb, off, y, hAe, had, hy, e0, e1⟩ := (HA.out.below Hbel.out).at2 hkn
      subst hAe
      have hg := getD_pt hy
      have HB2 := Lib.hid (Below.alloc Hbel.out hwr (.cells #[.int .i64 y.1, .int .u64 y.2] 51))
      have g1 : (wr.alloc (.cells #[.int .i64 y.1, .int .u64 y.2] 51)).cell? ⟨0, 0, none⟩ = some (sentV (es 1)) := (HS.out.below HB2.out hB0).var 1 (by decide)
      have g7 : (wr.alloc (.cells #[.int .i64 y.1, .int .u64 y.2] 51)).cell? ⟨8, 0, none⟩ = some (sentV (es 7)) := (HS.out.below HB2.out hB0).var 7 (by decide)
      by_cases htk : -1099511627776 ≤ y.1 ∧ y.1 ≤ 1099511627776
      · obtain ⟨t0, t1⟩ := htk
        have q0 : ¬ y.1 < -1099511627776 := by omega
        have q1 : ¬ 1099511627776 < y.1 := by omega
        by_cases hk0 : k = 0
        · subst hk0
          have hko : okAt l 0 := ⟨by rw [hg]; exact ⟨t0, t1⟩, fun h => absurd h (Nat.lt_irrefl _)⟩
          have hki : 0 < i := by
            rcases Nat.eq_zero_or_pos i with h | h
            · subst h; exact absurd hko (Hbad.out hkn)
            · exact h
          simp only [Nat.add_zero, Nat.zero_mul] at e0 e1
          clear hg hy hko
          go_wp2
          go_quiet (fail)
          go_wp2
          go_roundw
          case rel => exact ⟨0 + 1, by omega, by go_num, Below.drewN HB2.out _⟩
          case measure => simp [intOf]; omega
        · obtain ⟨bb2, off2, z, hA2, had2, hz, e2, e3⟩ := (HA.out.below Hbel.out).at2 (k := k - 1) (by omega)
          injection hA2 with hA2
          injection hA2 with hA3 hA4
          subst hA3; subst hA4
          have hgz := getD_pt hz
          have n1 : IntKind.i64.wrap ((k : Int) - 1) = ((k - 1 : Nat) : Int) := by rw [IntKind.wrap_i64]; omega
          have c0 : (0 : Int) < (k : Int) := by omega
          have hdk : decide (0 < k) = true := decide_eq_true (by omega)
          have hltb : bb < wr.heap.size := Nat.lt_of_lt_of_le had hwr
          have hkl : ((k - 1 : Nat) : Int) < (n : Int) := by omega
          have e2' : (wr.alloc (.cells #[.int .i64 y.1, .int .u64 y.2] 51)).cell? ⟨bb, off + (k - 1) * 2, none⟩ = some (.int .i64 z.1) := ((Below.alloc (Below.refl wr.heap.size wr) (Nat.le_refl _) _).cell (p := ⟨bb, off + (k - 1) * 2, none⟩) hltb).trans e2
          by_cases hzy : z.1 < y.1
          · have hko : okAt l k := ⟨by rw [hg]; exact ⟨t0, t1⟩, fun _ => by rw [hg, hgz]; exact hzy⟩
            have hki : k < i := by
              rcases Nat.lt_or_ge k i with h | h
              · exact h
              · obtain rfl : k = i := by omega
                exact absurd hko (Hbad.out hkn)
            have hd : decide (y.1 ≤ z.1) = false := decide_eq_false (by omega)
            have hd' : ¬ y.1 ≤ z.1 := by omega
            clear hg hgz hy hz hko e3
            go_wp2
            go_quiet (fail)
            go_wp2
            go_roundw
            case rel => exact ⟨k + 1, by omega, by go_num, Below.drewN HB2.out _⟩
            case measure => simp [intOf]; omega
          · have hki : k = i := by
              rcases Nat.lt_or_ge k i with h | h
              · have := (Hok.out k h).2 (by omega)
                rw [hg, hgz] at this
                exact absurd this hzy
              · omega
            subst hki
            have hd : decide (y.1 ≤ z.1) = true := decide_eq_true (by omega)
            have hd' : y.1 ≤ z.1 := by omega
            have hcode : codeAt l k = 7 := by unfold codeAt; rw [hg, if_pos ⟨t0, t1⟩]
            have Hcode := Lib.hid hcode
            clear hg hgz hy hz hcode e3
            go_wp2
            go_quiet (fail)
            go_wp2
            go_ret
            exact KPost.drewN (KPost.bad rfl hkn Hcode.out Hbel.out rfl) _
      · have hki : k = i := by
          rcases Nat.lt_or_ge k i with h | h
          · have := (Hok.out k h).1
            rw [hg] at this
            exact absurd this htk
          · omega
        subst hki
        have hcode : codeAt l k = 1 := by unfold codeAt; rw [hg, if_neg htk]
        have Hcode := Lib.hid hcode
        have hbd : y.1 < -1099511627776 ∨ (-1099511627776 ≤ y.1 ∧ 1099511627776 < y.1) := by omega
        clear hg hy hcode htk
        rcases hbd with q0 | ⟨q0, q1⟩
        · go_wp2
          go_ret
          exact KPost.bad rfl hkn Hcode.out Hbel.out rfl
        · have q2 : ¬ y.1 < -1099511627776 := by omega
          go_wp2
          go_ret
          exact KPost.bad rfl hkn Hcode.out Hbel.out rfl
    · obtain rfl : k = n := by omega
      obtain rfl : i = k := by omega
      go_wp2
      go_ret
      exact ⟨fun _ => rfl, fun h => absurd h (Nat.lt_irrefl _), Hbel.out⟩
end Go.Proofs.YtfkklcmepcocoaaGreatDoor
