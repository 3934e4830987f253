/- ChunkMerges by its contract: it returns true. -/
import Derived.Test.YtfnjgminbjopeaaDoorMerge
import Derived.Test.YtfnjgminbjopeaaDoorPtsRef
import Derived.Test.YtfnjgminbjopeaaDoorChunked
namespace Go.Proofs.YtfnjgminbjopeaaDoor
open Go.RowKit
set_option linter.unusedVariables false

theorem rises_of_ok {l : List (Int × Int)} {n : Nat} (hl : l.length = n) (h : ∀ j, j < n → okAt l j) : Rises l := by
  have key : ∀ i j, i < j → j < n → (l.getD i (0, 0)).1 < (l.getD j (0, 0)).1 := by
    intro i j
    induction j with
    | zero => intro h1; omega
    | succ j ih =>
      intro h1 h2
      have h3 := (h (j + 1) h2).2 (by omega)
      rw [Nat.add_sub_cancel] at h3
      rcases Nat.lt_or_ge i j with h4 | h4
      · have := ih h4 (by omega); omega
      · obtain rfl : i = j := by omega
        exact h3
  refine List.pairwise_iff_getElem.2 fun i j hi hj hij => ?_
  have := key i j hij (by omega)
  rwa [getD_pt (List.getElem?_eq_getElem hi), getD_pt (List.getElem?_eq_getElem hj)] at this
theorem rises_at {l : List (Int × Int)} (h : Rises l) {i : Nat} {p q : Int × Int} (hp : l[i]? = some p) (hq : l[i + 1]? = some q) : p.1 < q.1 := by
  obtain ⟨h1, e1⟩ := List.getElem?_eq_some_iff.1 hp
  obtain ⟨h2, e2⟩ := List.getElem?_eq_some_iff.1 hq
  have := List.pairwise_iff_getElem.1 h i (i + 1) h1 h2 (by omega)
  rwa [e1, e2] at this

set_option maxRecDepth 100000 in
set_option maxHeartbeats 8000000 in
theorem chunkMerges_law {es : Nat → Addr} {B : Nat} (A : Option Addr) (n c : Nat) (a : List (Int × Int)) (A' : Option Addr) (n' c' : Nat) (b : List (Int × Int)) (f t : Int) (w : World) (hS : SV es B w) (hT : TabAt w) (hB : B = w.heap.size)
    (hA : Rd w w.heap.size 2 A n (ptsC a)) (hn : n ≤ 140737488351232) (hc : n ≤ c) (hA' : Rd w w.heap.size 2 A' n' (ptsC b)) (hn' : n' ≤ 140737488351232) (hc' : n' ≤ c') :
    Calls Tryd.prog 3 #[.slice A n c, .slice A' n' c', .int .i64 f, .int .i64 t] w fun e w' => e = .returned (.bool true) ∧ Below w.heap.size w w' := by
  have hB0 : B ≤ w.heap.size := Nat.le_of_eq hB
  have hTB : 15 < B := by rw [hB]; exact hT.lt
  have hla : a.length = n := by have := hA.1; rw [ptsC_len] at this; omega
  have hlb : b.length = n' := by have := hA'.1; rw [ptsC_len] at this; omega
  clear hB
  have Hck := Lib.hid (chunked_any w hS hT hTB hB0)
  have HA := Lib.hid hA; have HA' := Lib.hid hA'; have Hla := Lib.hid hla; have Hlb := Lib.hid hlb
  clear hS hT hA hA' hla hlb hTB
  by_cases q0 : 100 < n
  · have q0' : (100 : Int) < n := by omega
    go_enter Tryd.func3, Tryd.ntmps3
    go_wp2_with (go_at_call 11; refine Hck.out.mono ?_; rintro e w1 ⟨rfl, hb1⟩; have hb1 := Lib.hid hb1)
    go_ret
    exact ⟨rfl, hb1.out⟩
  by_cases q1 : 100 < n'
  · have q0' : ¬ (100 : Int) < n := by omega
    have q1' : (100 : Int) < n' := by omega
    go_enter Tryd.func3, Tryd.ntmps3
    go_wp2_with (go_at_call 11; refine Hck.out.mono ?_; rintro e w1 ⟨rfl, hb1⟩; have hb1 := Lib.hid hb1)
    go_ret
    exact ⟨rfl, hb1.out⟩
  have q2 : n ≤ 100 := by omega
  have q3 : n' ≤ 100 := by omega
  have q0' : (n : Int) ≤ 100 := by omega
  have q1' : (n' : Int) ≤ 100 := by omega
  clear q0 q1 hn hn'
  have hfd : ∀ x y W, (Instr.field 29 (.agg #[x, y]) 0).run Tryd.prog W = .ok x W := fun _ _ _ => by kernel_rfl
  have HA2 := Lib.hid (fun W (hb : Below w.heap.size w W) => (HA.out.below hb).more hb.size)
  have HXB := Lib.hid (fun W (hb : Below w.heap.size w W) => (HA'.out.below hb).more hb.size)
  go_enter Tryd.func3, Tryd.ntmps3
  go_wp2_with fail
  refine (Hck.out).mono ?_
  rintro e w1 ⟨rfl, hb⟩
  have HB1 := Lib.hid hb; clear hb
  go_wp2_with fail
  refine (own_any A n c a _ (HA2.out _ HB1.out) (by omega)).mono ?_
  rintro e w2 ⟨v1, rfl, ho1, hb⟩
  have HB2 := Lib.hid (Below.call HB1.out hb HB1.out.size)
  obtain ⟨A1, c1, rfl, _, _, hr1⟩ := own_form ho1
  clear hb ho1
  go_wp2_with fail
  refine (between_any A1 n c1 a f t _ hr1 (by omega)).mono ?_
  rintro e w3 ⟨v2, rfl, ho2, hb⟩
  have HB3 := Lib.hid (Below.call HB2.out hb HB2.out.size)
  obtain ⟨A2, c2, rfl, _, _, hr2⟩ := own_form ho2
  clear hb ho2 hr1
  have HR2 := Lib.hid hr2; clear hr2
  go_wp2_with fail
  refine (betweenOf_any A n c a f t _ (HA2.out _ HB3.out) (by omega)).mono ?_
  rintro e w4 ⟨v3, rfl, ho3, hb⟩
  have HB4 := Lib.hid (Below.call HB3.out hb HB3.out.size)
  obtain ⟨A3, c3, rfl, _, _, hr3⟩ := own_form ho3
  have HR2b := Lib.hid ((HR2.out.below hb).more hb.size)
  have HR3 := Lib.hid hr3
  have hbl : (betL f t a).length ≤ 100 := by have := betL_le f t a; rw [Hla.out] at this; omega
  obtain ⟨bl, hbe⟩ : ∃ bl, bl = (betL f t a).length := ⟨_, rfl⟩
  rw [← hbe] at HR2b HR3 hbl ⊢
  clear hb ho3 hr3 hbe HR2
  go_wp2_with fail
  refine (samePoints_eq A2 bl c2 A3 c3 (betL f t a) _ HR2b.out HR3.out (by omega)).mono ?_
  rintro e w5 ⟨rfl, hb⟩
  have HB5 := Lib.hid (Below.call HB4.out hb HB4.out.size)
  clear hb HR2b HR3
  go_wp2_with fail
  refine (own_any A n c a _ (HA2.out _ HB5.out) (by omega)).mono ?_
  rintro e w6 ⟨v4, rfl, ho4, hb⟩
  have HB6 := Lib.hid (Below.call HB5.out hb HB5.out.size)
  obtain ⟨A4, c4, rfl, hc4, _, hr4⟩ := own_form ho4
  have HR4 := Lib.hid hr4
  clear hb ho4 hr4
  go_wp2_with fail
  refine (own_any A' n' c' b _ (HXB.out _ HB6.out) (by omega)).mono ?_
  rintro e w7 ⟨v5, rfl, ho5, hb⟩
  have HB7 := Lib.hid (Below.call HB6.out hb HB6.out.size)
  obtain ⟨A5, c5, rfl, hc5, _, hr5⟩ := own_form ho5
  have HR5 := Lib.hid hr5; have HR4b := Lib.hid ((HR4.out.below hb).more hb.size)
  clear hb ho5 hr5 HR4
  go_wp2_with fail
  refine (merge_any A4 n c4 A5 n' c5 a b _ HR4b.out HR5.out (by omega) (by omega) hc4 hc5).mono ?_
  rintro e w8 ⟨v6, rfl, ho6, hb⟩
  have HB8 := Lib.hid (Below.call HB7.out hb HB7.out.size)
  obtain ⟨Am, cm, rfl, hcm, _, hr6⟩ := own_form ho6
  have hml : (mergeP a b).length ≤ 200 := by have := merge_len a b; rw [Hla.out, Hlb.out] at this; omega
  obtain ⟨m, hm⟩ : ∃ m, m = mergeP a b := ⟨_, rfl⟩
  rw [← hm] at hr6 hml hcm ⊢
  have Hm := Lib.hid hm
  obtain ⟨ml, hmle⟩ : ∃ ml, ml = m.length := ⟨_, rfl⟩
  rw [← hmle] at hr6 hml hcm ⊢
  have Hml := Lib.hid hmle
  have HRm := Lib.hid hr6
  clear hb ho6 hr6 hm hmle HR4b HR5
  go_wp2_with fail
  refine (mergeOf_any A n c A' n' c' a b _ (HA2.out _ HB8.out) (HXB.out _ HB8.out) (by omega) (by omega) hc hc').mono ?_
  rintro e w9 ⟨v7, rfl, ho7, hb⟩
  have HB9 := Lib.hid (Below.call HB8.out hb HB8.out.size)
  rw [← Hm.out, ← Hml.out] at ho7
  obtain ⟨A7, c7, rfl, _, _, hr7⟩ := own_form ho7
  have HRmb := Lib.hid ((HRm.out.below hb).more hb.size)
  have HR7 := Lib.hid hr7
  clear hb ho7 hr7
  go_wp2_with fail
  refine (samePoints_eq Am ml cm A7 c7 m _ HRmb.out HR7.out (by omega)).mono ?_
  rintro e w10 ⟨rfl, hb⟩
  have HB10 := Lib.hid (Below.call HB9.out hb HB9.out.size)
  have HRmc := Lib.hid ((HRmb.out.below hb).more hb.size)
  clear hb HRmb HR7 HRm
  obtain ⟨i, hi1, hi2, hi3⟩ := first_pt a n
  have Hi2 := Lib.hid hi2; have Hi3 := Lib.hid hi3
  clear hi2 hi3
  go_wp2_with fail
  refine (pointsFault_any A n c a i _ (HA2.out _ HB10.out) (by omega) hi1 Hi2.out Hi3.out).mono ?_
  rintro e w11 ⟨rfl, hb⟩
  have HB11 := Lib.hid (Below.call HB10.out hb HB10.out.size)
  have HRmd := Lib.hid ((HRmc.out.below hb).more hb.size)
  clear hb HRmc
  by_cases hin : i < n
  · obtain ⟨cc, hcc⟩ : ∃ cc, cc = codeAt a i := ⟨_, rfl⟩
    rw [pfV_bad a n i cc hin hcc.symm]
    have hc0 : (0 : Int) < (cc : Int) + 1 := by omega
    clear hcc
    go_wp2
    go_ret
    exact ⟨rfl, HB11.out⟩
  obtain rfl : i = n := by omega
  rw [pfV_ok]
  obtain ⟨i', hi1', hi2', hi3'⟩ := first_pt b n'
  have Hi2' := Lib.hid hi2'; have Hi3' := Lib.hid hi3'
  clear hi2' hi3' hin hi1
  go_wp2_with fail
  refine (pointsFault_any A' n' c' b i' _ (HXB.out _ HB11.out) (by omega) hi1' Hi2'.out Hi3'.out).mono ?_
  rintro e w12 ⟨rfl, hb⟩
  have HB12 := Lib.hid (Below.call HB11.out hb HB11.out.size)
  have HRme := Lib.hid ((HRmd.out.below hb).more hb.size)
  clear hb HRmd
  by_cases hin : i' < n'
  · obtain ⟨cc, hcc⟩ : ∃ cc, cc = codeAt b i' := ⟨_, rfl⟩
    rw [pfV_bad b n' i' cc hin hcc.symm]
    have hc0 : (0 : Int) < (cc : Int) + 1 := by omega
    clear hcc
    go_wp2
    go_ret
    exact ⟨rfl, HB12.out⟩
  obtain rfl : i' = n' := by omega
  rw [pfV_ok]
  clear hin hi1'
  have Hra := Lib.hid (rises_of_ok Hla.out Hi2.out); have Hrb := Lib.hid (rises_of_ok Hlb.out Hi2'.out)
  have Hrm := Lib.hid (show Rises m by rw [Hm.out]; exact merge_rises Hra.out Hrb.out)
  go_wp2
  go_loopw [11] (fun iv wr => ∃ (k q : Nat), 1 ≤ k ∧ k ≤ ml + 1 ∧ iv = .int .i64 k ∧ wr = w12.drewN q) (fun iv _ => ml + 1 - (intOf iv).toNat)
  case atStart => exact ⟨1, 0, Nat.le_refl _, by omega, rfl, rfl⟩
  case round =>
    obtain ⟨k, q, hk1, hk2, rfl, rfl⟩ := hrel
    by_cases hkm : k < ml
    · obtain ⟨k, rfl⟩ : ∃ j, k = j + 1 := ⟨k - 1, by omega⟩
      obtain ⟨b1, o1, y, hA1, _, hy, e0, _⟩ := HRme.out.at2 (k := k) (by omega)
      obtain ⟨b2, o2, z, hA2, _, hz, e2, _⟩ := HRme.out.at2 hkm
      subst hA1
      injection hA2 with hA2
      injection hA2 with h1 h2
      subst h1; subst h2
      have hlt := rises_at Hrm.out hy hz
      have hd : decide (z.1 ≤ y.1) = false := decide_eq_false (by omega)
      have n1 : IntKind.i64.wrap ((k : Int) + 1 - 1) = (k : Int) := by rw [IntKind.wrap_i64]; omega
      have n2 : IntKind.i64.wrap ((k : Int) + 1) = (k : Int) + 1 := by rw [IntKind.wrap_i64]; omega
      have n3 : (k : Int) + 1 - 1 = (k : Int) := by omega
      have n4 : (0 : Int) ≤ (k : Int) + 1 := by omega
      have n5 : ((k : Int) + 1).toNat = k + 1 := by omega
      have c0 : (k : Int) + 1 < (ml : Int) := by omega
      have c1 : (k : Int) < (ml : Int) := by omega
      clear hy hz hlt
      go_wp2
      go_quiet (fail)
      clear n1 n2 n3 n5
      go_wp2
      go_roundw
      case rel => exact ⟨k + 1 + 1, _, by omega, by omega, by go_num, rfl⟩
      case measure => simp [intOf]; omega
    · have hkm' : ¬ (k : Int) < (ml : Int) := by omega
      have HRmf := Lib.hid (HRme.out.drewN q)
      have HBf := Lib.hid (Below.drewN HB12.out q)
      go_wp2_with fail
      refine (merge_any Am ml cm A' i' c' m b _ HRmf.out (HXB.out _ HBf.out) (by omega) (by omega) hcm hc').mono ?_
      rintro e w20 ⟨v20, rfl, ho20, hb⟩
      have HBg := Lib.hid (Below.call HBf.out hb HBf.out.size)
      have HRmg := Lib.hid ((HRmf.out.below hb).more hb.size)
      have emb : mergeP m b = m := by rw [Hm.out]; exact merge_mb Hra.out Hrb.out
      rw [emb, ← Hml.out] at ho20
      obtain ⟨A20, c20, rfl, _, _, hr20⟩ := own_form ho20
      have HR20 := Lib.hid hr20
      clear hb ho20 hr20 emb
      go_wp2_with fail
      refine (samePoints_eq A20 ml c20 Am cm m _ HR20.out HRmg.out (by omega)).mono ?_
      rintro e w21 ⟨rfl, hb⟩
      have HBh := Lib.hid (Below.call HBg.out hb HBg.out.size)
      have HRmh := Lib.hid ((HRmg.out.below hb).more hb.size)
      clear hb
      go_wp2_with fail
      refine (merge_any A i c Am ml cm a m _ (HA2.out _ HBh.out) HRmh.out (by omega) (by omega) hc hcm).mono ?_
      rintro e w22 ⟨v22, rfl, ho22, hb⟩
      have HBi := Lib.hid (Below.call HBh.out hb HBh.out.size)
      have HRmi := Lib.hid ((HRmh.out.below hb).more hb.size)
      have eam : mergeP a m = m := by rw [Hm.out]; exact merge_am Hra.out Hrb.out
      rw [eam, ← Hml.out] at ho22
      obtain ⟨A22, c22, rfl, _, _, hr22⟩ := own_form ho22
      have HR22 := Lib.hid hr22
      clear hb ho22 hr22 eam
      go_wp2_with fail
      refine (samePoints_eq A22 ml c22 Am cm m _ HR22.out HRmi.out (by omega)).mono ?_
      rintro e w23 ⟨rfl, hb⟩
      have HBj := Lib.hid (Below.call HBi.out hb HBi.out.size)
      clear hb
      go_wp2
      go_ret
      exact ⟨rfl, HBj.out⟩
end Go.Proofs.YtfnjgminbjopeaaDoor
