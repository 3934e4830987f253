/- The walk of the law MaskValues: it returns true, whatever values are handed over. -/
import Derived.Test.YtiohnehccmbplaaDoorMaskGet
import Derived.Test.YtiohnehccmbplaaDoorMaskOf
import Derived.Test.YtiohnehccmbplaaDoorMasked
import Derived.Test.YtiohnehccmbplaaDoorSameV
import Derived.Test.YtiohnehccmbplaaDoorWaveGet
namespace Go.Proofs.YtiohnehccmbplaaDoor
open Go.RowKit
set_option linter.unusedVariables false

theorem vcode_3 : (decide ((((2 : Nat) : Int) + 1) = 3) && decide ((-1 : Int) = -1)) = true := by decide

set_option maxRecDepth 100000 in
set_option maxHeartbeats 8000000 in
theorem maskValues_law {es : Nat → Addr} {B : Nat} (A : Option Addr) (n c : Nat) (xs : List Nat) (w : World) (hS : Sents es B w) (hT : TabAt w) (hB : B = w.heap.size)
    (hA : Rd w w.heap.size 1 A n (xs.map fun x : Nat => Value.int .u64 (x : Int))) (hn : n ≤ 140737488351232) (hxs : ∀ x ∈ xs, x < 18446744073709551616) :
    Calls Tryd.prog 11 #[.slice A n c] w fun e w' => e = .returned (.bool true) ∧ Below w.heap.size w w' := by
  have hB0 : B ≤ w.heap.size := Nat.le_of_eq hB
  have hTB : 12 < B := by rw [hB]; exact hT.lt
  have hlen : xs.length = n := by have := hA.1; simp at this; omega
  clear hB
  have Hmk := Lib.hid (masked_any w hT)
  by_cases q1 : 30 < n
  · have q1' : (30 : Int) < n := by omega
    clear hA hlen hS hT hxs
    go_enter Tryd.func11, Tryd.ntmps11
    go_wp2_with (go_at_call 52; refine Hmk.out.mono ?_; rintro e w1 ⟨rfl, hb1⟩; have hb1 := Lib.hid hb1)
    go_ret
    exact ⟨rfl, hb1.out⟩
  have q1' : (n : Int) ≤ 30 := by omega
  obtain ⟨i0, hi, hz0, hz1, hz2⟩ := info_parts infoU64
  have Hi := Lib.hid hi; have Hz0 := Lib.hid hz0; have Hz1 := Lib.hid hz1; have Hz2 := Lib.hid hz2
  have hmb : maskB xs = pBits (mP xs n) := by unfold maskB; rw [hlen]
  obtain ⟨L, hL⟩ : ∃ L, L = maskB xs := ⟨_, rfl⟩
  have hLs : L.length = sumN (mP xs n) := by rw [hL, hmb]; rfl
  have hL4 : L.length ≤ 7680 := by have := sumN_mP xs n hxs (by omega); omega
  have hrd : rdM L n [] w0 0 = .ok xs L.length := by
    have := rdM_mask [] [] (l := xs) hxs
    simp only [List.nil_append, List.append_nil, List.length_nil, Nat.zero_add] at this
    rw [hL, ← hlen]; exact this
  have hsz : (txt L).size = L.length := txt_size L
  have HS := Lib.hid hS; have HA := Lib.hid hA; have Hxs := Lib.hid hxs; have HT := Lib.hid hT; have HL := Lib.hid hL; have HLs := Lib.hid hLs; have Hrd := Lib.hid hrd
  have hk63 : 0 + n ≤ maxLen := by unfold maxLen; omega
  have hk8 : (0 + n) * 8 ≤ 140737488355328 := by omega
  clear hS hA hxs hT hL hLs hrd hmb hlen hi hz0 hz1 hz2
  go_enter Tryd.func11, Tryd.ntmps11
  go_wp2_with fail
  refine Hmk.out.mono ?_
  rintro e w1 ⟨rfl, hb⟩
  have hB1 := Lib.hid hb; clear hb
  go_wp2_with fail
  refine (new_any _).mono ?_
  rintro e w2 ⟨rfl, hw2⟩
  have hr2 : RowAt w2 w1.heap.size (.slice none 0 0) [] := by rw [hw2]; exact new_row w1
  have hB2 := Lib.hid (show Below w.heap.size w w2 by rw [hw2]; exact Below.alloc hB1.out hB1.out.size _)
  have hg : w.heap.size ≤ w1.heap.size := hB1.out.size
  generalize hgg : w1.heap.size = g at hr2 hg
  have Hr2 := Lib.hid hr2
  clear hw2 hr2 hgg hB1
  go_wp2_with fail
  refine (maskOf_any A n c xs _ ((HA.out.below hB2.out).more hB2.out.size) (by omega) Hxs.out).mono ?_
  rintro e w3 ⟨rfl, hb⟩
  rw [← HL.out]
  have hB3 := Lib.hid (Below.call hB2.out hb hB2.out.size)
  have Hr3 := Lib.hid (Hr2.out.below hb (Nat.le_refl _))
  have hw3 : w.heap.size ≤ w3.heap.size := hB3.out.size
  clear hb
  go_wp2_with (at_builtin; refine wpList_append_rd _ rfl (.tmp 27) (.tmp 28) _ rfl w3.heap.size 42 i0 (.int .u64 0) 1 8 Tryd.underlying90 Hi.out Hz0.out Hz1.out Hz2.out rfl (by decide) _ 0 _ rfl (World.ownsRow_nil _ _ _ _) _ _ n c (xs.map fun x : Nat => Value.int .u64 (x : Int)) rfl ((HA.out.below hB3.out).more hB3.out.size) (u64_one xs) hk63 hk8 (Nat.le_refl _) ?_; intro v' wa hown' hgr hat; rw [Nat.zero_add, List.nil_append] at hown'; obtain ⟨A2, c2, rfl, _, _, hr2⟩ := own_form hown'; have hbl := Below.grown (Below.refl w3.heap.size w3) hgr (Nat.le_refl _) (fun q hq => by cases hq); have HrA := Lib.hid hr2; have HBl := Lib.hid hbl; clear hown' hgr hat hr2 hbl)
  have hB4 := Lib.hid (Below.call hB3.out HBl.out hw3)
  have Hr4 := Lib.hid (Hr3.out.below HBl.out (Nat.le_refl _))
  go_wp2_with fail
  refine (mput_ok g (.slice none 0 0) [] A2 n c2 xs _ Hr4.out (HT.out.call hB4.out (Nat.le_refl _)) HrA.out (by omega) Hxs.out (by rw [← HL.out]; simp; omega)).mono ?_
  rintro e w5 ⟨rfl, hst⟩
  rw [List.nil_append, ← HL.out] at hst
  have hb5 := Below.trans hB4.out (hst.below (B := w.heap.size) Hr4.out hg)
  obtain ⟨bv5, hr5, _, _⟩ := hst
  have hB5 := Lib.hid hb5; have Hr5 := Lib.hid hr5
  clear hb5 hr5
  go_wp2_with fail
  refine (len_any g bv5 L _ Hr5.out).mono ?_
  rintro e w' ⟨rfl, rfl⟩
  go_wp2_with fail
  refine (bytes_any g bv5 L _ Hr5.out).mono ?_
  rintro e w' ⟨rfl, rfl⟩
  go_wp2_with fail
  refine (pack_any L (by omega) _).mono ?_
  rintro e w8 ⟨rfl, hb⟩
  have hB8 := Lib.hid (Below.call hB5.out hb hB5.out.size)
  clear hb
  go_wp2_with fail
  refine (msize_any A n c xs _ (HT.out.call hB8.out (Nat.le_refl _)) ((HA.out.below hB8.out).more hB8.out.size) (by omega) Hxs.out).mono ?_
  rintro e w9 ⟨rfl, hb⟩
  rw [← HLs.out]
  have hB9 := Lib.hid (Below.call hB8.out hb hB8.out.size)
  clear hb
  go_wp2_with fail
  refine (openBits_any L (by omega) _).mono ?_
  rintro e w10 ⟨g2, rfl, hg2, hrd, hb⟩
  have hB10 := Lib.hid (Below.call hB9.out hb hB9.out.size)
  have hg3 : w.heap.size ≤ g2 := Nat.le_trans hB9.out.size hg2
  have Hrd10 := Lib.hid hrd
  clear hb hrd hg2
  go_wp2_with fail
  refine (mread_any g2 0 L.length (packN L) n L _ (rbits_pack L).symm (HS.out.below hB10.out hB0).v (HT.out.call hB10.out (Nat.le_refl _)) hTB (Nat.le_trans hB0 hB10.out.size) (Nat.le_trans hB0 hg3) Hrd10.out (by omega)).mono ?_
  rintro e w11 ⟨_, hok, hf⟩
  obtain ⟨v11, rfl, hown, hrd⟩ := hok xs L.length Hrd.out
  obtain ⟨A11, c11, rfl, _, _, hr11⟩ := own_form hown
  have hB11 := Lib.hid (Below.trans hB10.out (hf.below hB10.out.size (fun k hk hs => by omega)))
  have Hr11 := Lib.hid hr11; have Hrd11 := Lib.hid hrd
  clear hok hf hown hr11 hrd
  go_wp2_with fail
  refine (mread_nil 1 _ (HS.out.below hB11.out hB0).v (by omega)).mono ?_
  rintro e w12 ⟨rfl, hb⟩
  have hB12 := Lib.hid (Below.call hB11.out hb hB11.out.size)
  have Hr12 := Lib.hid ((Hr11.out.below hb).more hb.size)
  have Hrd12 := Lib.hid (Hrd11.out.below hb (Nat.le_refl _))
  clear hb
  go_wp2_with fail
  refine (sameValues_eq A11 n c11 A c xs _ Hr12.out ((HA.out.below hB12.out).more hB12.out.size) (by omega)).mono ?_
  rintro e w13 ⟨rfl, hb⟩
  have hB13 := Lib.hid (Below.call hB12.out hb hB12.out.size)
  have Hrd13 := Lib.hid (Hrd12.out.below hb (Nat.le_refl _))
  clear hb
  go_wp2_with fail
  refine (left_any g2 L.length L.length (packN L) _ Hrd13.out).mono ?_
  rintro e w14 ⟨rfl, hb⟩
  have hB14 := Lib.hid (Below.call hB13.out hb hB13.out.size)
  clear hb
  rw [Int.sub_self]
  go_wp2_with fail
  refine (coded_any _ _ _ 3 _ (HS.out.below hB14.out hB0) (Nat.le_trans hB0 hB14.out.size) (ErrIs.sent (HS.out.below hB14.out hB0) (k := 2) (by omega))).mono ?_
  rintro e w15 ⟨rfl, hb⟩
  rw [vcode_3]
  have hB15 := Lib.hid (Below.call hB14.out hb hB14.out.size)
  clear hb
  go_wp2_with fail
  refine (mput_nil _ _ (HS.out.below hB15.out hB0).v).mono ?_
  rintro e w16 ⟨rfl, rfl⟩
  go_wp2_with fail
  refine (coded_any _ _ _ 3 _ (HS.out.below hB15.out hB0) (Nat.le_trans hB0 hB15.out.size) (ErrIs.sent (HS.out.below hB15.out hB0) (k := 2) (by omega))).mono ?_
  rintro e w17 ⟨rfl, hb⟩
  rw [vcode_3]
  have hB17 := Lib.hid (Below.call hB15.out hb hB15.out.size)
  clear hb
  go_wp2
  go_ret
  exact ⟨rfl, hB17.out⟩
end Go.Proofs.YtiohnehccmbplaaDoor
