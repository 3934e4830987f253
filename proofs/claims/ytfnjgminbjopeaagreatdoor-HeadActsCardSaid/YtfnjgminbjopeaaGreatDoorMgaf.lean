/- The reference's Decimal by its contract. -/
import Derived.Test.YtfnjgminbjopeaaGreatDoorMgac
import Derived.Test.YtfnjgminbjopeaaGreatDoorHeadCut2Q
namespace Go.Proofs.YtfnjgminbjopeaaGreatDoor
open Go.RowKit
set_option linter.unusedVariables false

/-- Decimal digits, with so many to come at most. -/
def decF : Nat → Nat → List UInt8
  | 0, n => [UInt8.ofNat (48 + n % 10)]
  | f + 1, n => if n < 10 then [UInt8.ofNat (48 + n)] else decF f (n / 10) ++ [UInt8.ofNat (48 + n % 10)]
def decN (n : Nat) : List UInt8 := decF 19 n
def decZ (n : Int) : List UInt8 := if n < 0 then 45 :: decN n.natAbs else decN n.natAbs
theorem decF_len (f n : Nat) : (decF f n).length ≤ f + 1 := by
  induction f generalizing n with
  | zero => simp [decF]
  | succ f ih =>
    unfold decF
    split
    · simp
    · have := ih (n / 10)
      rw [List.length_append, List.length_singleton]; omega

theorem decN_len (n : Nat) : (decN n).length ≤ 20 := decF_len 19 n
end Go.Proofs.YtfnjgminbjopeaaGreatDoor

namespace Go.Proofs.YtfnjgminbjopeaaGreatDoor
open Go.RowKit Go.Maps
set_option linter.unusedVariables false

theorem coded2_any {es : Nat → Addr} {B : Nat} (v : Value) (n t c : Int) (w : World) (hS : Sents es B w) (hB : B ≤ w.heap.size) (hv : ErrIs es w v n t) :
    Calls Tryz.prog 11 #[v, .int .i64 c] w fun e w' => e = .returned (.bool (decide (n = c) && decide (t = -1))) ∧ Below w.heap.size w w' := by
  have hc := code_any v n t w hS hB hv
  clear hv hS
  by_cases h1 : n = c
  · by_cases h2 : t = -1
    · subst h1; subst h2
      have Hc := Lib.hid hc; clear hc
      go_enter Tryz.func11, Tryz.ntmps11
      go_wp2_with fail
      refine Hc.out.mono ?_
      rintro e w1 ⟨rfl, hb⟩
      have Hb := Lib.hid hb; clear hb
      go_wp2
      go_ret
      exact ⟨by simp, Hb.out⟩
    · subst h1
      have b2 : (t == -1) = false := by simp [h2]
      have Hc := Lib.hid hc; have H2 := Lib.hid h2; clear hc h2
      go_enter Tryz.func11, Tryz.ntmps11
      go_wp2_with fail
      refine Hc.out.mono ?_
      rintro e w1 ⟨rfl, hb⟩
      have Hb := Lib.hid hb; clear hb
      go_wp2
      go_ret
      exact ⟨by simp [H2.out], Hb.out⟩
  · have b1 : (n == c) = false := by simp [h1]
    have Hc := Lib.hid hc; have H1 := Lib.hid h1; clear hc h1
    go_enter Tryz.func11, Tryz.ntmps11
    go_wp2_with fail
    refine Hc.out.mono ?_
    rintro e w1 ⟨rfl, hb⟩
    have Hb := Lib.hid hb; clear hb
    go_wp2
    go_ret
    exact ⟨by simp [H1.out], Hb.out⟩
theorem absL_names {L : List HLn} {A : List HA} (h : absL L = A) {x : HLn} (hx : x ∈ L) : (x.nm, x.pts, x.last) ∈ A := by
  rw [← h]; exact List.mem_map.2 ⟨x, hx, rfl⟩
set_option maxRecDepth 100000 in
set_option maxHeartbeats 4000000 in
theorem headed_any {es : Nat → Addr} {B : Nat} (w : World) (hS : SVL es B w) (hB0 : B ≤ w.heap.size) :
    Calls Tryz.prog 4 #[] w fun e w' => e = .returned (.bool true) ∧ Below w.heap.size w w' := by
  have Hnew := Lib.hid (hnew_any w)
  have HS := Lib.hid (fun W (hb : Below w.heap.size w W) => hS.below hb hB0)
  have Hf := Lib.hid (show hFault (absL []) [110, 61, 97] (3, 7) = (0, -1) by decide)
  clear hS
  go_enter Tryz.func4, Tryz.ntmps4
  go_wp2_with fail
  refine Hnew.out.mono ?_
  rintro e w1 ⟨q, mb, rfl, hH, hb⟩
  have HH := Lib.hid hH; have HB1 := Lib.hid hb
  clear hH hb
  go_wp2_with fail
  refine (hadd_any [110, 61, 97] (3, 7) _ (by decide) (HS.out _ HB1.out) (Nat.le_trans hB0 HB1.out.size) HH.out (by decide) (fun x h => by cases h)).mono ?_
  rintro e w2 ⟨_, hok⟩
  obtain ⟨rfl, D', L', hH, hab, hfr⟩ := hok (by rw [Hf.out])
  have hab2 : absL L' = [([110, 61, 97], [(3, 7)], 3)] := by rw [hab]; decide
  have HH2 := Lib.hid (hH.mono (F' := fun k => w.heap.size ≤ k) (fun k hk => hk.elim (fun h => h) (fun h => Nat.le_trans HB1.out.size h)))
  have HB2 := Lib.hid (show Below w.heap.size w w2 from HB1.out.trans (hfr.below HB1.out.size (fun k hk h => by omega)))
  have hcn : hCnt L' = 1 := by rw [← hCount_of, hab2]; rfl
  have hsr : hSer L' = [[110, 61, 97]] := by rw [← hSeries_of, hab2]; decide
  have Hcn := Lib.hid hcn; have Hsr := Lib.hid hsr; have Hab := Lib.hid hab2
  clear hok hH hab hab2 hfr hcn hsr
  go_wp2_with fail
  refine (hcount_any _ HH2.out (by rw [Hcn.out]; decide)).mono ?_
  rintro e w3 ⟨rfl, hb⟩
  rw [Hcn.out]
  have HH3 := Lib.hid (HH2.out.below hb); have HB3 := Lib.hid (Below.call HB2.out hb HB2.out.size)
  clear hb
  go_wp2_with fail
  refine (hseries_any _ HH3.out (by have := congrArg List.length Hab.out; unfold absL at this; rw [List.length_map] at this; rw [this]; decide) (fun x hx => by
    have := absL_names Hab.out hx
    simp at this
    rw [this.1]; decide)).mono ?_
  rintro e w4 ⟨v, rfl, hown, hb⟩
  rw [Hsr.out] at hown
  obtain ⟨A, c, rfl, _, _, _⟩ := own_form hown
  have HB4 := Lib.hid (Below.call HB3.out hb HB3.out.size)
  clear hown hb
  go_wp2
  go_ret
  exact ⟨rfl, HB4.out⟩
end Go.Proofs.YtfnjgminbjopeaaGreatDoor
