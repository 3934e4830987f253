/- The reference's Decimal by its contract. -/
import Derived.Test.YtpbgonpmpjpljaaGreatDoorMkcX
import Derived.Test.YtpbgonpmpjpljaaGreatDoorNumNX
import Derived.Test.YtpbgonpmpjpljaaGreatDoorMknX
import Derived.Test.YtpbgonpmpjpljaaGreatDoorMkgX
import Derived.Test.YtpbgonpmpjpljaaGreatDoorMkfX
namespace Go.Proofs.YtpbgonpmpjpljaaGreatDoor
open Go.RowKit
set_option linter.unusedVariables false

/-- Decimal digits, with so many to come at most. -/
def decF : Nat → Nat → List UInt8
  | 0, n => [UInt8.ofNat (48 + n % 10)]
  | f + 1, n => if n < 10 then [UInt8.ofNat (48 + n)] else decF f (n / 10) ++ [UInt8.ofNat (48 + n % 10)]
def decN (n : Nat) : List UInt8 := decF 19 n
def decZ (n : Int) : List UInt8 := if n < 0 then 45 :: decN n.natAbs else decN n.natAbs
theorem decF_len (f n : Nat) : (decF f n).length ≤ f + 1 := by
  induction f generalizing n with
  | zero => simp [decF]
  | succ f ih =>
    unfold decF
    split
    · simp
    · have := ih (n / 10)
      rw [List.length_append, List.length_singleton]; omega

set_option maxRecDepth 100000 in
theorem below_any (f : Nat) : ∀ (n : Nat) (w : World), f ≤ 19 → n < 10 ^ (f + 1) → n ≤ 9223372036854775808 →
    Calls Tryz.prog 58 #[.int .i64 (-(n : Int))] w fun e w' => e = .returned (.string (B8 (decF f n))) ∧ Below w.heap.size w w' := by
  have small : ∀ (f n : Nat) (w : World), n < 10 → decF f n = [UInt8.ofNat (48 + n)] →
      Calls Tryz.prog 58 #[.int .i64 (-(n : Int))] w fun e w' => e = .returned (.string (B8 (decF f n))) ∧ Below w.heap.size w w' := by
    intro f n w hn10 hr
    have hby := byte_any (48 + n) (by omega) w
    rw [show ((48 + n : Nat) : Int) = 48 + (n : Int) by omega] at hby
    have Hby := Lib.hid hby
    rw [hr]
    have g : -(10 : Int) < -(n : Int) := by omega
    clear hby hr
    generalize B8 [UInt8.ofNat (48 + n)] = s2 at Hby ⊢
    go_enter Tryz.func58, Tryz.ntmps58
    go_wp2_with fail
    refine Hby.out.mono ?_
    rintro e w1 ⟨rfl, hb⟩
    have Hb := Lib.hid hb
    clear hb
    go_wp2
    go_ret
    exact ⟨rfl, Hb.out⟩
  induction f with
  | zero =>
    intro n w _ hn _
    have hn10 : n < 10 := by omega
    exact small 0 n w hn10 (by unfold decF; rw [Nat.mod_eq_of_lt hn10])
  | succ f ih =>
    intro n w hf hn hmax
    by_cases hn10 : n < 10
    · exact small (f + 1) n w hn10 (by unfold decF; rw [if_pos hn10])
    · have ih2 := ih (n / 10) w (by omega) (by rw [Nat.pow_succ] at hn; omega) (by omega)
      rw [show ((n / 10 : Nat) : Int) = (n : Int) / 10 by omega] at ih2
      have Ih := Lib.hid ih2
      have hby := fun W => byte_any (48 + n % 10) (by omega) W
      rw [show ((48 + n % 10 : Nat) : Int) = 48 + (n : Int) % 10 by omega] at hby
      have Hby := Lib.hid hby
      have Hr := Lib.hid (show decF (f + 1) n = decF f (n / 10) ++ [UInt8.ofNat (48 + n % 10)] by conv => lhs; unfold decF; rw [if_neg hn10])
      have hl := decF_len f (n / 10)
      have hsz : (B8 (decF f (n / 10))).size ≤ 20 := by rw [B8_size]; omega
      have Hcat := Lib.hid (show B8 (decF f (n / 10)) ++ B8 [UInt8.ofNat (48 + n % 10)] = B8 (decF (f + 1) n) by rw [B8_append, Hr.out])
      have g : ¬ -(10 : Int) < -(n : Int) := by omega
      have h1 : (B8 [UInt8.ofNat (48 + n % 10)]).size = 1 := B8_size _
      clear ih ih2 hby small hn hl
      generalize B8 (decF f (n / 10)) = s1 at Ih hsz Hcat
      generalize B8 [UInt8.ofNat (48 + n % 10)] = s2 at Hby h1 Hcat
      have hcl : ¬ 9223372036854775807 < s1.size + s2.size := by omega
      go_enter Tryz.func58, Tryz.ntmps58
      go_wp2_with fail
      refine Ih.out.mono ?_
      rintro e w1 ⟨rfl, hb⟩
      have Hb1 := Lib.hid hb
      clear hb
      go_wp2_with fail
      refine (Hby.out _).mono ?_
      rintro e w2 ⟨rfl, hb⟩
      have Hb2 := Lib.hid (Below.call Hb1.out hb Hb1.out.size)
      clear hb
      go_wp2
      go_ret
      exact ⟨congrArg (fun b => Ending.returned (.string b)) Hcat.out, Hb2.out⟩
set_option maxRecDepth 100000 in
theorem decimal_any (n : Int) (w : World) (h1 : -9223372036854775808 ≤ n) (h2 : n ≤ 9223372036854775807) :
    Calls Tryz.prog 34 #[.int .i64 n] w fun e w' => e = .returned (.string (B8 (decZ n))) ∧ Below w.heap.size w w' := by
  have hp : n.natAbs < 10 ^ (19 + 1) := by
    have : (10 : Nat) ^ (19 + 1) = 100000000000000000000 := by decide
    rw [this]; omega
  have hb := below_any 19 n.natAbs w (Nat.le_refl _) hp (by omega)
  clear hp
  by_cases hn : n < 0
  · rw [show -((n.natAbs : Nat) : Int) = n by omega] at hb
    have Hb := Lib.hid hb
    have hsz : (B8 (decF 19 n.natAbs)).size ≤ 20 := by rw [B8_size]; exact decF_len 19 _
    have Hr := Lib.hid (show (⟨#[45]⟩ : ByteArray) ++ B8 (decF 19 n.natAbs) = B8 (decZ n) by
      unfold decZ; rw [if_pos hn, show (⟨#[45]⟩ : ByteArray) = B8 [45] from rfl, B8_append]; rfl)
    clear hb
    generalize B8 (decF 19 n.natAbs) = s1 at Hb hsz Hr
    have hcl : ¬ 9223372036854775807 < 1 + s1.size := by omega
    go_enter Tryz.func34, Tryz.ntmps34
    go_wp2_with fail
    refine Hb.out.mono ?_
    rintro e w1 ⟨rfl, hb⟩
    have HB := Lib.hid hb
    clear hb
    go_wp2
    go_ret
    exact ⟨congrArg (fun b => Ending.returned (.string b)) Hr.out, HB.out⟩
  · rw [show -((n.natAbs : Nat) : Int) = -n by omega] at hb
    have Hb := Lib.hid hb
    have Hr := Lib.hid (show B8 (decF 19 n.natAbs) = B8 (decZ n) by unfold decZ; rw [if_neg hn]; rfl)
    clear hb
    generalize B8 (decF 19 n.natAbs) = s1 at Hb Hr
    go_enter Tryz.func34, Tryz.ntmps34
    go_wp2_with fail
    refine Hb.out.mono ?_
    rintro e w1 ⟨rfl, hb⟩
    have HB := Lib.hid hb
    clear hb
    go_wp2
    go_ret
    exact ⟨congrArg (fun b => Ending.returned (.string b)) Hr.out, HB.out⟩
end Go.Proofs.YtpbgonpmpjpljaaGreatDoor

namespace Go.Proofs.YtpbgonpmpjpljaaGreatDoor
open Go.RowKit
set_option linter.unusedVariables false

theorem decF_digits (f n : Nat) (h : n < 10 ^ (f + 1)) : decF f n = Lib.decDigits n := by
  induction f generalizing n with
  | zero =>
    have h1 : n < 10 := by simpa using h
    unfold decF; rw [Lib.decDigits, dif_pos h1, Nat.mod_eq_of_lt h1]
  | succ f ih =>
    unfold decF
    by_cases h10 : n < 10
    · rw [if_pos h10, Lib.decDigits, dif_pos h10]
    · rw [if_neg h10, ih _ (by rw [Nat.pow_succ] at h; omega)]
      conv => rhs; rw [Lib.decDigits, dif_neg h10]
theorem decZ_itoa {n : Int} (h : n.natAbs < 10 ^ 20) : decZ n = Lib.itoa n := by
  unfold decZ Lib.itoa decN
  rw [decF_digits 19 n.natAbs h]
  split
  · rfl
  · have e : n.toNat = n.natAbs := by omega
    rw [e]

/-- An entry of a log. -/
structure En where
  nm : Bs
  tick : Int
  bit : Nat
def EnOk (e : En) : Prop := (rdF e.nm).1 = 0 ∧ tickB e.tick = true ∧ e.bit < 18446744073709551616
def bodyL (e : En) : Bs := e.nm ++ 64 :: (Lib.itoa e.tick ++ 61 :: hexK 16 e.bit)
def len2 (n : Nat) : Bs := [UInt8.ofNat (n / 256 % 256), UInt8.ofNat (n % 256)]
def crc4 (n : Nat) : Bs := [UInt8.ofNat (n % 256), UInt8.ofNat (n / 256 % 256), UInt8.ofNat (n / 65536 % 256), UInt8.ofNat (n / 16777216 % 256)]
def recB (b : Bs) : Bs := len2 b.length ++ (b ++ crc4 (sumL (natsOf b)))
def recL (e : En) : Bs := recB (bodyL e)
theorem recB_len (b : Bs) : (recB b).length = b.length + 6 := by
  unfold recB len2 crc4
  simp only [List.length_append, List.length_cons, List.length_nil]
  omega

/-- What a log holds: right records from its beginning on, as many as there are, and how many bytes they have. -/
structure IsRead (b : Bs) (l : List En) (n : Nat) : Prop where
  ok : ∀ e ∈ l, EnOk e
  pre : b.take n = l.flatMap recL
  le : n ≤ b.length
  no : ∀ e, EnOk e → ¬ recL e <+: b.drop n
theorem IsRead.len {b : Bs} {l : List En} {n : Nat} (h : IsRead b l n) : (l.flatMap recL).length = n := by
  rw [← h.pre, List.length_take]; exact Nat.min_eq_left h.le
theorem IsRead.split {b : Bs} {l : List En} {n : Nat} (h : IsRead b l n) : b = l.flatMap recL ++ b.drop n := by
  rw [← h.pre, List.take_append_drop]
theorem IsRead.of {l : List En} (h : ∀ e ∈ l, EnOk e) {r : Bs} (hr : ∀ f, EnOk f → ¬ recL f <+: r) : IsRead (l.flatMap recL ++ r) l (l.flatMap recL).length := by
  refine ⟨h, List.take_left' rfl, by rw [List.length_append]; omega, ?_⟩
  rw [List.drop_left']
  · exact hr
  · rfl
end Go.Proofs.YtpbgonpmpjpljaaGreatDoor

namespace Go.Proofs.YtpbgonpmpjpljaaGreatDoor
open Go.RowKit
set_option linter.unusedVariables false

/-- So far the log is read. -/
structure RdTo (b : Bs) (l : List En) (k : Nat) : Prop where
  ok : ∀ e ∈ l, EnOk e
  pre : b.take k = l.flatMap recL
  le : k ≤ b.length
theorem RdTo.start (b : Bs) : RdTo b [] 0 := ⟨fun e h => (by cases h), rfl, Nat.zero_le _⟩
theorem RdTo.stop {b : Bs} {l : List En} {k : Nat} (h : RdTo b l k) (hn : ∀ e, EnOk e → ¬ recL e <+: b.drop k) : IsRead b l k := ⟨h.ok, h.pre, h.le, hn⟩
theorem RdTo.step {b : Bs} {l : List En} {k n : Nat} (h : RdTo b l k) {e : En} (he : EnOk e) (hn : k + n ≤ b.length) (hr : (b.drop k).take n = recL e) : RdTo b (l ++ [e]) (k + n) := by
  refine ⟨fun x hx => ?_, ?_, hn⟩
  · rcases List.mem_append.1 hx with hx | hx
    · exact h.ok x hx
    · rw [List.mem_singleton.1 hx]; exact he
  · rw [List.flatMap_append, ← h.pre, List.flatMap_singleton, ← hr, List.take_add]
theorem RdTo.len {b : Bs} {l : List En} {k : Nat} (h : RdTo b l k) : l.length * 6 ≤ k := by
  have h1 : (l.flatMap recL).length = k := by rw [← h.pre, List.length_take]; exact Nat.min_eq_left h.le
  rw [← h1]
  clear h h1
  induction l with
  | nil => simp
  | cons e l ih =>
    rw [List.flatMap_cons, List.length_append, List.length_cons]
    have : (recL e).length = (bodyL e).length + 6 := recB_len _
    omega
end Go.Proofs.YtpbgonpmpjpljaaGreatDoor

namespace Go.Proofs.YtpbgonpmpjpljaaGreatDoor
open Go.RowKit
set_option linter.unusedVariables false

/-- k is the place of the first byte 64, or the length. -/
structure At64 (b : Bs) (k : Nat) : Prop where
  le : k ≤ b.length
  no : (64 : UInt8) ∉ b.take k
theorem At64.start (b : Bs) : At64 b 0 := ⟨Nat.zero_le _, by simp⟩
theorem At64.step {b : Bs} {k : Nat} (h : At64 b k) (hk : k < b.length) (hc : b.getD k 0 ≠ 64) : At64 b (k + 1) := by
  refine ⟨hk, ?_⟩
  have e : b[k]? = some (b.getD k 0) := by rw [List.getD_eq_getElem?_getD, List.getElem?_eq_getElem hk]; rfl
  rw [take_snoc e, List.mem_append]
  rintro (h1 | h1)
  · exact h.no h1
  · exact hc (List.mem_singleton.1 h1).symm
end Go.Proofs.YtpbgonpmpjpljaaGreatDoor
