/- mask.Size and mask.Put by contracts. -/
import Derived.Test.YtfkklcmepcocoaaGreatDoorMaskPQX
import Derived.Test.YtfkklcmepcocoaaGreatDoorMkdX
namespace Go.Proofs.YtfkklcmepcocoaaGreatDoor
open Go.RowKit
set_option linter.unusedVariables false

theorem sumN_take {ps : List (Nat × Nat)} {k : Nat} {p : Nat × Nat} (h : ps[k]? = some p) : sumN (ps.take (k + 1)) = sumN (ps.take k) + p.2 := by rw [take_snoc h, sumN_snoc]
theorem pBits_take {ps : List (Nat × Nat)} {k : Nat} {p : Nat × Nat} (h : ps[k]? = some p) : pBits (ps.take (k + 1)) = pBits (ps.take k) ++ bitsN p.1 p.2 := by rw [take_snoc h, pBits_append]; simp [pBits]
theorem sumN_take_le (ps : List (Nat × Nat)) (k : Nat) : sumN (ps.take k) ≤ sumN ps := by
  have : pBits ps = pBits (ps.take k) ++ pBits (ps.drop k) := by rw [← pBits_append, List.take_append_drop]
  unfold sumN; rw [this, List.length_append]; omega
theorem sumN_mP (xs : List Nat) (n : Nat) (hxs : ∀ x ∈ xs, x < 18446744073709551616) (hn : n ≤ xs.length) : sumN (mP xs n) ≤ 256 * n := by
  have h1 := sumN_le (mP xs n) (fun p hp => (mP_ok hxs n hn p hp).2)
  have h2 := mP_len xs n
  omega

theorem msize_any (A : Option Addr) (n c : Nat) (xs : List Nat) (w : World) (hT : TabAt w) (hA : Rd w w.heap.size 1 A n (xs.map fun x : Nat => Value.int .u64 (x : Int))) (hn : n ≤ 10000) (hxs : ∀ x ∈ xs, x < 18446744073709551616) :
    Calls Tryz.prog 171 #[.slice A n c] w fun e w' => e = .returned (.int .i64 (sumN (mP xs n))) ∧ Below w.heap.size w w' := by
  have hlen : xs.length = n := by have := hA.1; simp at this; omega
  have hsum := sumN_mP xs n hxs (by omega)
  have hok := mP_ok hxs n (by omega)
  have Hp := Lib.hid (parts_any A n c xs w hT hA hn hxs)
  have Hok := Lib.hid hok
  have hml := mP_len xs n
  generalize mP xs n = ps at hsum Hok Hp hml ⊢
  clear hT hA hxs hok hlen
  go_enter Tryz.func171, Tryz.ntmps171
  go_wp2_with fail
  refine Hp.out.mono ?_
  rintro e w1 ⟨v, rfl, hown, hb⟩
  obtain ⟨A1, c1, rfl, _, _, hrd⟩ := own_form hown
  have Hb := Lib.hid hb; have Hrd := Lib.hid hrd
  clear hown hb hrd
  go_wp2
  go_loopw [3, 9] (fun o iv wr => ∃ k s : Nat, k ≤ ps.length ∧ iv = .int .i64 k ∧ o = .int .i64 s ∧ s = sumN (ps.take k) ∧ Below w1.heap.size w1 wr) (fun _ iv _ => ps.length - (intOf iv).toNat)
  case atStart => exact ⟨0, 0, Nat.zero_le _, rfl, rfl, rfl, Below.refl _ _⟩
  case round =>
    obtain ⟨k, s, hk, rfl, rfl, hs, hbel⟩ := hrel
    have Hs := Lib.hid hs; have Hbel := Lib.hid hbel
    have hwr := hbel.size
    clear hs hbel
    by_cases hkn : k < ps.length
    · obtain ⟨bb, off, y, hAe, had, hy, e0, e1⟩ := (Hrd.out.below Hbel.out).at2 hkn
      subst hAe
      have h64 := (Hok.out y (List.mem_of_getElem? hy)).2
      have hnx := sumN_take hy
      have hle := sumN_take_le ps k
      have hss := Hs.out
      have hs0 : s ≤ 256 * n := by omega
      have Hnx := Lib.hid hnx
      clear hnx hle hss hy
      go_wp2
      go_roundw
      case rel => exact ⟨k + 1, s + y.2, by omega, by go_num, by go_num, by rw [Hnx.out, Hs.out], Below.alloc Hbel.out hwr _⟩
      case measure => simp [intOf]; omega
    · obtain rfl : k = ps.length := by omega
      have he : s = sumN ps := by rw [Hs.out, List.take_length]
      have He := Lib.hid he
      clear he
      go_wp2
      go_ret
      exact ⟨by rw [He.out]; rfl, Below.call Hb.out Hbel.out Hb.out.size⟩

set_option maxRecDepth 100000 in
set_option maxHeartbeats 4000000 in
theorem mput_ok (g : Nat) (bv : Value) (l : List Bool) (A : Option Addr) (n c : Nat) (xs : List Nat) (w : World) (hr : RowAt w g bv l) (hT : TabAt w) (hA : Rd w w.heap.size 1 A n (xs.map fun x : Nat => Value.int .u64 (x : Int))) (hn : n ≤ 10000) (hxs : ∀ x ∈ xs, x < 18446744073709551616)
    (hroom : l.length + (maskB xs).length ≤ 1048576) :
    Calls Tryz.prog 127 #[.pointer (some ⟨g, 0, none⟩), .slice A n c] w fun e w' => e = .returned .nilIface ∧ RowStep w w' g bv (l ++ maskB xs) := by
  have hlen : xs.length = n := by have := hA.1; simp at this; omega
  have hmb : maskB xs = pBits (mP xs n) := by unfold maskB; rw [hlen]
  have hfit : ((sumN (mP xs n) : Nat) : Int) ≤ 1048576 - (l.length : Int) := by
    rw [hmb] at hroom; unfold sumN; omega
  have hok := mP_ok hxs n (by omega)
  have hl : l.length ≤ 1048576 := by omega
  have Hz := Lib.hid (msize_any A n c xs w hT hA hn hxs)
  have Hp := Lib.hid (fun W (hb : Below w.heap.size w W) => parts_any A n c xs W (hT.call hb (Nat.le_refl _)) ((hA.below hb).more hb.size) hn hxs)
  have Hok := Lib.hid hok; have Hr := Lib.hid hr
  rw [hmb] at hroom ⊢
  have hml := mP_len xs n
  generalize mP xs n = ps at hfit Hok Hz Hp hroom hml ⊢
  have Hroom := Lib.hid hroom
  clear hT hA hxs hok hlen hmb hr hroom
  go_enter Tryz.func127, Tryz.ntmps127
  go_wp2_with fail
  refine Hz.out.mono ?_
  rintro e w1 ⟨rfl, hb⟩
  have Hb1 := Lib.hid hb; clear hb
  go_wp2_with fail
  refine (room_any g bv l _ w1 (Hr.out.below Hb1.out (Nat.le_refl _)) hl).mono ?_
  rintro e w' ⟨rfl, rfl⟩
  go_wp2_with fail
  refine (Hp.out _ Hb1.out).mono ?_
  rintro e w2 ⟨v2, rfl, hown, hb⟩
  obtain ⟨A1, c1, rfl, _, _, hrd⟩ := own_form hown
  have Hb2 := Lib.hid (Below.call Hb1.out hb Hb1.out.size); have Hown2 := Lib.hid hown
  have Hr2 := Lib.hid (Hr.out.below Hb2.out (Nat.le_refl _))
  clear hown hb hrd
  go_wp2
  go_loopw [20] (fun iv wr => ∃ (k : Nat) (bv1 : Value), k ≤ ps.length ∧ iv = .int .i64 k ∧ RowAt wr g bv1 (l ++ pBits (ps.take k)) ∧ Fr (RowS g bv) w2 wr ∧ Mv w2 bv bv1 ∧ wr.ownsRow w1.heap.size 249 2 (.slice A1 ps.length c1) ps.length (ps.flatMap ptW)) (fun iv _ => ps.length - (intOf iv).toNat)
  case atStart => exact ⟨0, bv, Nat.zero_le _, rfl, by simpa [pBits] using Hr2.out, Fr.refl _ _, Mv.refl _ _, Hown2.out⟩
  case round =>
    obtain ⟨k, bv1, hk, rfl, hrow, hfr, hmv, hown⟩ := hrel
    have Hrow := Lib.hid hrow; have Hfr := Lib.hid hfr; have Hmv := Lib.hid hmv; have Hown := Lib.hid hown
    have Hrd := Lib.hid (Rd.of_own hown)
    clear hrow hfr hmv hown
    by_cases hkn : k < ps.length
    · obtain ⟨bb, off, y, hAe, had, hy, e0, e1⟩ := Hrd.out.at2 hkn
      subst hAe
      obtain ⟨hy0, h64⟩ := Hok.out y (List.mem_of_getElem? hy)
      have hnx := pBits_take hy
      have hsn := sumN_take hy
      have hle := sumN_take_le ps (k + 1)
      have hro := Hroom.out
      have hfit2 : ((l ++ pBits (ps.take k)).length : Int) + ((y.2 : Nat) : Int) ≤ 1048576 := by
        unfold sumN at hsn hle
        rw [List.length_append]; omega
      have Hnx := Lib.hid hnx
      have Hro2 := Lib.hid (Hrow.out.alloc (.cells #[.int .u64 (y.1 : Int), .int .i64 (y.2 : Int)] 249))
      have Hown3 := Lib.hid (Hown.out.alloc (.cells #[.int .u64 (y.1 : Int), .int .i64 (y.2 : Int)] 249))
      clear hnx hsn hle hro hy
      go_wp2_with fail
      refine (put_any g bv1 _ (y.1 : Int) (y.2 : Int) _ Hro2.out (by omega) (by omega) hfit2 (by omega) (by omega)).mono ?_
      rintro e w5 ⟨rfl, hst⟩
      rw [Int.toNat_natCast, Int.toNat_natCast, List.append_assoc, ← Hnx.out] at hst
      have hown5 := hst.own Hro2.out Hown3.out (by decide) (by decide)
      obtain ⟨bv5, hr5, hf5, hm5⟩ := RowStep.trans Hro2.out (Hfr.out.alloc _) Hmv.out hst
      have Hown5 := Lib.hid hown5; have Hr5 := Lib.hid hr5; have Hf5 := Lib.hid hf5; have Hm5 := Lib.hid hm5
      clear hst hown5 hr5 hf5 hm5
      go_wp2
      go_roundw
      case rel => exact ⟨k + 1, bv5, by omega, by go_num, Hr5.out, Hf5.out, Hm5.out, Hown5.out⟩
      case measure => simp [intOf]; omega
    · obtain rfl : k = ps.length := by omega
      have hrow := Hrow.out
      rw [List.take_length] at hrow
      have Hrow2 := Lib.hid hrow
      clear hrow
      go_wp2
      go_ret
      exact ⟨rfl, RowStep.behind Hr.out Hb2.out (Nat.le_refl _) ⟨bv1, Hrow2.out, Hfr.out, Hmv.out⟩⟩
end Go.Proofs.YtfkklcmepcocoaaGreatDoor
