/- The reference's Decimal by its contract. -/
import Derived.Test.YtfkklcmepcocoaaGreatDoorRef
namespace Go.Proofs.YtfkklcmepcocoaaGreatDoor
open Go.RowKit
set_option linter.unusedVariables false

/-- Decimal digits, with so many to come at most. -/
def decF : Nat → Nat → List UInt8
  | 0, n => [UInt8.ofNat (48 + n % 10)]
  | f + 1, n => if n < 10 then [UInt8.ofNat (48 + n)] else decF f (n / 10) ++ [UInt8.ofNat (48 + n % 10)]
def decN (n : Nat) : List UInt8 := decF 19 n
def decZ (n : Int) : List UInt8 := if n < 0 then 45 :: decN n.natAbs else decN n.natAbs
theorem decF_len (f n : Nat) : (decF f n).length ≤ f + 1 := by
  induction f generalizing n with
  | zero => simp [decF]
  | succ f ih =>
    unfold decF
    split
    · simp
    · have := ih (n / 10)
      rw [List.length_append, List.length_singleton]; omega

set_option maxRecDepth 100000 in
theorem below_any (f : Nat) : ∀ (n : Nat) (w : World), f ≤ 19 → n < 10 ^ (f + 1) → n ≤ 9223372036854775808 →
    Calls Tryz.prog 121 #[.int .i64 (-(n : Int))] w fun e w' => e = .returned (.string (B8 (decF f n))) ∧ Below w.heap.size w w' := by
  have small : ∀ (f n : Nat) (w : World), n < 10 → decF f n = [UInt8.ofNat (48 + n)] →
      Calls Tryz.prog 121 #[.int .i64 (-(n : Int))] w fun e w' => e = .returned (.string (B8 (decF f n))) ∧ Below w.heap.size w w' := by
    intro f n w hn10 hr
    have hby := byte_any (48 + n) (by omega) w
    rw [show ((48 + n : Nat) : Int) = 48 + (n : Int) by omega] at hby
    have Hby := Lib.hid hby
    rw [hr]
    have g : -(10 : Int) < -(n : Int) := by omega
    clear hby hr
    generalize B8 [UInt8.ofNat (48 + n)] = s2 at Hby ⊢
    go_enter Tryz.func121, Tryz.ntmps121
    go_wp2_with fail
    refine Hby.out.mono ?_
    rintro e w1 ⟨rfl, hb⟩
    have Hb := Lib.hid hb
    clear hb
    go_wp2
    go_ret
    exact ⟨rfl, Hb.out⟩
  induction f with
  | zero =>
    intro n w _ hn _
    have hn10 : n < 10 := by omega
    exact small 0 n w hn10 (by unfold decF; rw [Nat.mod_eq_of_lt hn10])
  | succ f ih =>
    intro n w hf hn hmax
    by_cases hn10 : n < 10
    · exact small (f + 1) n w hn10 (by unfold decF; rw [if_pos hn10])
    · have ih2 := ih (n / 10) w (by omega) (by rw [Nat.pow_succ] at hn; omega) (by omega)
      rw [show ((n / 10 : Nat) : Int) = (n : Int) / 10 by omega] at ih2
      have Ih := Lib.hid ih2
      have hby := fun W => byte_any (48 + n % 10) (by omega) W
      rw [show ((48 + n % 10 : Nat) : Int) = 48 + (n : Int) % 10 by omega] at hby
      have Hby := Lib.hid hby
      have Hr := Lib.hid (show decF (f + 1) n = decF f (n / 10) ++ [UInt8.ofNat (48 + n % 10)] by conv => lhs; unfold decF; rw [if_neg hn10])
      have hl := decF_len f (n / 10)
      have hsz : (B8 (decF f (n / 10))).size ≤ 20 := by rw [B8_size]; omega
      have Hcat := Lib.hid (show B8 (decF f (n / 10)) ++ B8 [UInt8.ofNat (48 + n % 10)] = B8 (decF (f + 1) n) by rw [B8_append, Hr.out])
      have g : ¬ -(10 : Int) < -(n : Int) := by omega
      have h1 : (B8 [UInt8.ofNat (48 + n % 10)]).size = 1 := B8_size _
      clear ih ih2 hby small hn hl
      generalize B8 (decF f (n / 10)) = s1 at Ih hsz Hcat
      generalize B8 [UInt8.ofNat (48 + n % 10)] = s2 at Hby h1 Hcat
      have hcl : ¬ 9223372036854775807 < s1.size + s2.size := by omega
      go_enter Tryz.func121, Tryz.ntmps121
      go_wp2_with fail
      refine Ih.out.mono ?_
      rintro e w1 ⟨rfl, hb⟩
      have Hb1 := Lib.hid hb
      clear hb
      go_wp2_with fail
      refine (Hby.out _).mono ?_
      rintro e w2 ⟨rfl, hb⟩
      have Hb2 := Lib.hid (Below.call Hb1.out hb Hb1.out.size)
      clear hb
      go_wp2
      go_ret
      exact ⟨congrArg (fun b => Ending.returned (.string b)) Hcat.out, Hb2.out⟩
theorem decN_len (n : Nat) : (decN n).length ≤ 20 := decF_len 19 n
set_option maxRecDepth 100000 in
theorem decimal_any (n : Int) (w : World) (h1 : -9223372036854775808 ≤ n) (h2 : n ≤ 9223372036854775807) :
    Calls Tryz.prog 85 #[.int .i64 n] w fun e w' => e = .returned (.string (B8 (decZ n))) ∧ Below w.heap.size w w' := by
  have hp : n.natAbs < 10 ^ (19 + 1) := by
    have : (10 : Nat) ^ (19 + 1) = 100000000000000000000 := by decide
    rw [this]; omega
  have hb := below_any 19 n.natAbs w (Nat.le_refl _) hp (by omega)
  clear hp
  by_cases hn : n < 0
  · rw [show -((n.natAbs : Nat) : Int) = n by omega] at hb
    have Hb := Lib.hid hb
    have hsz : (B8 (decF 19 n.natAbs)).size ≤ 20 := by rw [B8_size]; exact decF_len 19 _
    have Hr := Lib.hid (show (⟨#[45]⟩ : ByteArray) ++ B8 (decF 19 n.natAbs) = B8 (decZ n) by
      unfold decZ; rw [if_pos hn, show (⟨#[45]⟩ : ByteArray) = B8 [45] from rfl, B8_append]; rfl)
    clear hb
    generalize B8 (decF 19 n.natAbs) = s1 at Hb hsz Hr
    have hcl : ¬ 9223372036854775807 < 1 + s1.size := by omega
    go_enter Tryz.func85, Tryz.ntmps85
    go_wp2_with fail
    refine Hb.out.mono ?_
    rintro e w1 ⟨rfl, hb⟩
    have HB := Lib.hid hb
    clear hb
    go_wp2
    go_ret
    exact ⟨congrArg (fun b => Ending.returned (.string b)) Hr.out, HB.out⟩
  · rw [show -((n.natAbs : Nat) : Int) = -n by omega] at hb
    have Hb := Lib.hid hb
    have Hr := Lib.hid (show B8 (decF 19 n.natAbs) = B8 (decZ n) by unfold decZ; rw [if_neg hn]; rfl)
    clear hb
    generalize B8 (decF 19 n.natAbs) = s1 at Hb Hr
    go_enter Tryz.func85, Tryz.ntmps85
    go_wp2_with fail
    refine Hb.out.mono ?_
    rintro e w1 ⟨rfl, hb⟩
    have HB := Lib.hid hb
    clear hb
    go_wp2
    go_ret
    exact ⟨congrArg (fun b => Ending.returned (.string b)) Hr.out, HB.out⟩
end Go.Proofs.YtfkklcmepcocoaaGreatDoor
