/- The walk of the law ChunkSizes: it returns true, whatever numbers are handed over. -/
import Derived.Test.YtiohnehccmbplaaDoorChunked
import Derived.Test.YtiohnehccmbplaaDoorWaveShortLaw
namespace Go.Proofs.YtiohnehccmbplaaDoor
open Go.RowKit
set_option linter.unusedVariables false

def ptL (f s : Int) (V n : Nat) : List (Int × Int) := (List.range n).map fun k : Nat => (f + (k : Int) * s, (V : Int))
theorem ptL_len (f s : Int) (V n : Nat) : (ptL f s V n).length = n := by simp [ptL]
theorem ptL_get (f s : Int) (V n k : Nat) (h : k < n) : (ptL f s V n).getD k (0, 0) = (f + (k : Int) * s, (V : Int)) := by
  rw [List.getD_eq_getElem?_getD]; simp [ptL, h]
theorem ptL_succ (f s : Int) (V n : Nat) : ptL f s V (n + 1) = ptL f s V n ++ [(f + (n : Int) * s, (V : Int))] := by simp [ptL, List.range_succ]
theorem ptL_ts (f s : Int) (V n : Nat) : tsOf (ptL f s V n) = apL f s n := by simp [tsOf, ptL, apL]
theorem ptL_vs (f s : Int) (V n : Nat) : vsOf (ptL f s V n) = List.replicate n V := by
  apply List.ext_getElem
  · simp [vsOf, ptL]
  · intro i h1 h2; simp [vsOf, ptL]
theorem rep_getD (n V k : Nat) (h : k < n) : (List.replicate n V).getD k 0 = V := by rw [List.getD_eq_getElem?_getD, List.getElem?_replicate, if_pos h]; rfl
theorem same_mP (n V : Nat) : ∀ k, k + 1 ≤ n → mP (List.replicate n V) (k + 1) = (V, 64) :: List.replicate k (0, 1)
  | 0, h => by rw [mP, if_pos rfl, rep_getD n V 0 (by omega)]; rfl
  | k + 1, h => by
    have hx : xAt (List.replicate n V) (k + 1) = 0 := by
      unfold xAt
      rw [rep_getD n V (k + 1) (by omega), rep_getD n V (k + 1 - 1) (by omega), Nat.xor_self]
    rw [mP_succ _ (by omega), same_mP n V k (by omega), hx, parts_zero', List.cons_append, ← List.replicate_succ']
where parts_zero' {w : Win} : mParts w 0 = [(0, 1)] := by unfold mParts; rw [if_pos rfl]
theorem sum_ones (k : Nat) : sumN (List.replicate k (0, 1)) = k := by
  induction k with
  | zero => rfl
  | succ k ih =>
    have e : List.replicate (k + 1) ((0 : Nat), (1 : Nat)) = List.replicate k (0, 1) ++ [(0, 1)] := List.replicate_succ'
    rw [e, sumN_snoc, ih]
theorem same_sum (n V : Nat) (h : 1 ≤ n) : sumN (mP (List.replicate n V) n) = 63 + n := by
  obtain ⟨k, rfl⟩ : ∃ k, n = k + 1 := ⟨n - 1, by omega⟩
  rw [same_mP (k + 1) V k (Nat.le_refl _)]
  have : sumN ((V, 64) :: List.replicate k (0, 1)) = 64 + sumN (List.replicate k (0, 1)) := by
    unfold sumN; rw [pBits_cons, List.length_append, bitsN_len]
  rw [this, sum_ones]; omega
theorem ks_bd (k : Nat) (s : Int) (hk : k ≤ 120) (h1 : 1 ≤ s) (h2 : s ≤ 1073741824) : 0 ≤ (k : Int) * s ∧ (k : Int) * s ≤ 128849018880 := by
  constructor
  · exact Int.mul_nonneg (by omega) (by omega)
  · have := Int.mul_le_mul (show (k : Int) ≤ 120 by omega) h2 (by omega) (by omega)
    omega
theorem ptL_ok (f s : Int) (V n : Nat) (hn : n ≤ 120) (f1 : -1073741824 ≤ f) (f2 : f ≤ 1073741824) (h1 : 1 ≤ s) (h2 : s ≤ 1073741824) : ∀ j, j < n → okAt (ptL f s V n) j := by
  intro j hj
  unfold okAt
  rw [ptL_get f s V n j hj]
  have hb := ks_bd j s (by omega) h1 h2
  refine ⟨⟨?_, ?_⟩, fun h0 => ?_⟩
  · show -1099511627776 ≤ f + (j : Int) * s; omega
  · show f + (j : Int) * s ≤ 1099511627776; omega
  · rw [ptL_get f s V n (j - 1) (by omega)]
    show f + ((j - 1 : Nat) : Int) * s < f + (j : Int) * s
    have e : ((j : Nat) : Int) = ((j - 1 : Nat) : Int) + 1 := by omega
    rw [e, Int.add_mul]; omega
theorem row_len (f s : Int) (V n : Nat) (h : 2 ≤ n) : ((rowP (ptL f s V n)).length : Int) = 8 + sizeN f + sizeN s + n - 2 + ((63 + n : Nat) : Int) := by
  obtain ⟨m, rfl⟩ : ∃ m, n = m + 2 := ⟨n - 2, by omega⟩
  have h1 := apL_bits f s m
  have h2 := same_sum (m + 2) V (by omega)
  unfold rowP
  rw [List.length_append, List.length_append, bitsN_len, ptL_ts, ptL_vs]
  have h3 : (maskB (List.replicate (m + 2) V)).length = sumN (mP (List.replicate (m + 2) V) (m + 2)) := by unfold maskB sumN; rw [List.length_replicate]
  rw [h3, h2]; omega

theorem cs_append1 {w4 wr wa : World} {k : Nat} {f s : Int} {V : Nat} {t : Int} {v v' v2 : Value} (hown : wr.ownsRow w4.heap.size 102 2 v k (ptsC (ptL f s V k))) (hown2 : wr.ownsRow w4.heap.size 42 1 v2 k ((List.replicate k V).map fun x : Nat => Value.int .u64 (x : Int))) (hb : Below w4.heap.size w4 wr) (ht : t = f + (k : Int) * s)
    (hown' : wa.ownsRow w4.heap.size 102 2 v' (k + 1) (ptsC (ptL f s V k) ++ ptsC [(t, (V : Int))])) (hgr : (wr.alloc (.cells #[.int .i64 t, .int .u64 (V : Int)] 102)).grownBy wa v.ownBlock) :
    wa.ownsRow w4.heap.size 102 2 v' (k + 1) (ptsC (ptL f s V (k + 1))) ∧ wa.ownsRow w4.heap.size 42 1 v2 k ((List.replicate k V).map fun x : Nat => Value.int .u64 (x : Int)) ∧ Below w4.heap.size w4 wa := by
  have hs := hb.size
  refine ⟨?_, own_after (hown2.alloc _) (hown.alloc _) (by decide) hgr, Below.grown (Below.alloc hb hs _) hgr (by simp; omega) (fun g hg => (own_lt hown g hg).1)⟩
  have e : ptsC (ptL f s V (k + 1)) = ptsC (ptL f s V k) ++ ptsC [(t, (V : Int))] := by rw [ptL_succ, ht]; simp [ptsC]
  rw [e]; exact hown'
theorem cs_append2 {w4 wr wa : World} {k : Nat} {f s : Int} {V : Nat} {v v' v1 : Value} (hown : wr.ownsRow w4.heap.size 42 1 v k ((List.replicate k V).map fun x : Nat => Value.int .u64 (x : Int))) (hown1 : wr.ownsRow w4.heap.size 102 2 v1 (k + 1) (ptsC (ptL f s V (k + 1)))) (hb : Below w4.heap.size w4 wr)
    (hown' : wa.ownsRow w4.heap.size 42 1 v' (k + 1) ((List.replicate k V).map (fun x : Nat => Value.int .u64 (x : Int)) ++ [.int .u64 (V : Int)])) (hgr : (wr.alloc (.cells #[.int .u64 (V : Int)] 42)).grownBy wa v.ownBlock) :
    wa.ownsRow w4.heap.size 42 1 v' (k + 1) ((List.replicate (k + 1) V).map fun x : Nat => Value.int .u64 (x : Int)) ∧ wa.ownsRow w4.heap.size 102 2 v1 (k + 1) (ptsC (ptL f s V (k + 1))) ∧ Below w4.heap.size w4 wa := by
  have hs := hb.size
  refine ⟨?_, own_after (hown1.alloc _) (hown.alloc _) (by decide) hgr, Below.grown (Below.alloc hb hs _) hgr (by simp; omega) (fun g hg => (own_lt hown g hg).1)⟩
  have e : (List.replicate (k + 1) V).map (fun x : Nat => Value.int .u64 (x : Int)) = (List.replicate k V).map (fun x : Nat => Value.int .u64 (x : Int)) ++ [.int .u64 (V : Int)] := by rw [List.replicate_succ', List.map_append]; rfl
  rw [e]; exact hown'

set_option maxRecDepth 100000 in
set_option maxHeartbeats 8000000 in
theorem chunkSizes_law {es : Nat → Addr} {B : Nat} (f s N V0 : Int) (w : World) (hS : SV es B w) (hT : TabAt w) (hB : B = w.heap.size) (hV : 0 ≤ V0 ∧ V0 < 18446744073709551616) :
    Calls Tryd.prog 12 #[.int .i64 f, .int .i64 s, .int .i64 N, .int .u64 V0] w fun e w' => e = .returned (.bool true) ∧ Below w.heap.size w w' := by
  have hB0 : B ≤ w.heap.size := Nat.le_of_eq hB
  have hTB : 12 < B := by rw [hB]; exact hT.lt
  obtain ⟨hV0, hV1⟩ := hV
  obtain ⟨V, rfl⟩ := Int.eq_ofNat_of_zero_le hV0
  clear hB
  have Hck := Lib.hid (chunked_any w hS hT hTB hB0)
  have HS := Lib.hid hS; have HT := Lib.hid hT; have HV := Lib.hid (show 0 ≤ ((V : Nat) : Int) ∧ ((V : Nat) : Int) < 18446744073709551616 from ⟨hV0, hV1⟩)
  clear hS hT hV0 hV1
  by_cases q0 : N < 2
  · go_enter Tryd.func12, Tryd.ntmps12
    go_wp2_with (go_at_call 59; refine Hck.out.mono ?_; rintro e w1 ⟨rfl, hb1⟩; have hb1 := Lib.hid hb1)
    go_ret
    exact ⟨rfl, hb1.out⟩
  by_cases q1 : 120 < N
  · go_enter Tryd.func12, Tryd.ntmps12
    go_wp2_with (go_at_call 59; refine Hck.out.mono ?_; rintro e w1 ⟨rfl, hb1⟩; have hb1 := Lib.hid hb1)
    go_ret
    exact ⟨rfl, hb1.out⟩
  by_cases q2 : f < -1073741824
  · go_enter Tryd.func12, Tryd.ntmps12
    go_wp2_with (go_at_call 59; refine Hck.out.mono ?_; rintro e w1 ⟨rfl, hb1⟩; have hb1 := Lib.hid hb1)
    go_ret
    exact ⟨rfl, hb1.out⟩
  by_cases q3 : 1073741824 < f
  · go_enter Tryd.func12, Tryd.ntmps12
    go_wp2_with (go_at_call 59; refine Hck.out.mono ?_; rintro e w1 ⟨rfl, hb1⟩; have hb1 := Lib.hid hb1)
    go_ret
    exact ⟨rfl, hb1.out⟩
  by_cases q4 : s < 1
  · go_enter Tryd.func12, Tryd.ntmps12
    go_wp2_with (go_at_call 59; refine Hck.out.mono ?_; rintro e w1 ⟨rfl, hb1⟩; have hb1 := Lib.hid hb1)
    go_ret
    exact ⟨rfl, hb1.out⟩
  by_cases q5 : 1073741824 < s
  · go_enter Tryd.func12, Tryd.ntmps12
    go_wp2_with (go_at_call 59; refine Hck.out.mono ?_; rintro e w1 ⟨rfl, hb1⟩; have hb1 := Lib.hid hb1)
    go_ret
    exact ⟨rfl, hb1.out⟩
  obtain ⟨n, rfl⟩ := Int.eq_ofNat_of_zero_le (show 0 ≤ N by omega)
  have hn1 : n ≤ 120 := by omega
  have hn2 : 2 ≤ n := by omega
  have f1 : -1073741824 ≤ f := by omega
  have f2 : f ≤ 1073741824 := by omega
  have s1 : 1 ≤ s := by omega
  have s2 : s ≤ 1073741824 := by omega
  have hrow := row_len f s V n hn2
  have hsum := same_sum n V (by omega)
  have hbf := sizeN_bd f
  have hbs := sizeN_bd s
  obtain ⟨i1, hi, hz0, hz1, hz2⟩ := info_parts infoPt
  obtain ⟨i2, hi2, hy0, hy1, hy2⟩ := info_parts infoU64e
  have Hi := Lib.hid hi; have Hz0 := Lib.hid hz0; have Hz1 := Lib.hid hz1; have Hz2 := Lib.hid hz2
  have Hi2 := Lib.hid hi2; have Hy0 := Lib.hid hy0; have Hy1 := Lib.hid hy1; have Hy2 := Lib.hid hy2
  have Hok := Lib.hid (ptL_ok f s V n hn1 f1 f2 s1 s2)
  have Hrow := Lib.hid hrow; have Hsum := Lib.hid hsum; have Hbf := Lib.hid hbf; have Hbs := Lib.hid hbs; have Hs12 := Lib.hid (And.intro s1 s2)
  clear hbf hbs f1 f2 s1 s2 hi hz0 hz1 hz2 hi2 hy0 hy1 hy2 hrow hsum
  go_enter Tryd.func12, Tryd.ntmps12
  go_wp2_with fail
  refine Hck.out.mono ?_
  rintro e w1 ⟨rfl, hb⟩
  have hB1 := Lib.hid hb; clear hb
  go_wp2
  go_loopw [10, 11, 12] (fun o1 o2 iv wr => ∃ k : Nat, k ≤ n ∧ iv = .int .i64 k ∧ wr.ownsRow w1.heap.size 102 2 o1 k (ptsC (ptL f s V k)) ∧ wr.ownsRow w1.heap.size 42 1 o2 k ((List.replicate k V).map fun x : Nat => Value.int .u64 (x : Int)) ∧ Below w1.heap.size w1 wr) (fun _ _ iv _ => n - (intOf iv).toNat)
  case atStart => exact ⟨0, Nat.zero_le _, rfl, World.ownsRow_nil _ _ _ _, World.ownsRow_nil _ _ _ _, Below.refl _ _⟩
  case round =>
    obtain ⟨k, hk, rfl, hown1, hown2, hbel⟩ := hrel
    obtain ⟨A1, c1, rfl, _, _, _⟩ := own_form hown1
    obtain ⟨A2, c2, rfl, _, _, _⟩ := own_form hown2
    have Hown1 := Lib.hid hown1; have Hown2 := Lib.hid hown2; have Hbel := Lib.hid hbel
    have hwr : w1.heap.size ≤ wr.heap.size := hbel.size
    clear hown1 hown2 hbel
    by_cases hkn : k < n
    · obtain ⟨m0, m1⟩ := ks_bd k s (by omega) Hs12.out.1 Hs12.out.2
      obtain ⟨m, hm⟩ : ∃ m, m = (k : Int) * s := ⟨_, rfl⟩
      rw [← hm] at m0 m1
      obtain ⟨t, ht⟩ : ∃ t, t = f + m := ⟨_, rfl⟩
      have e1 : IntKind.i64.wrap ((k : Int) * s) = m := by rw [← hm, IntKind.wrap_i64]; omega
      have e2 : IntKind.i64.wrap (f + m) = t := by rw [← ht, IntKind.wrap_i64]; omega
      have Ht := Lib.hid (show t = f + (k : Int) * s by rw [ht, hm])
      have hk63 : k + 1 ≤ maxLen := by unfold maxLen; omega
      have hk8 : (k + 1) * 16 ≤ 140737488355328 := by omega
      have hk9 : (k + 1) * 8 ≤ 140737488355328 := by omega
      have HrA := Lib.hid (Rd.one2 wr 102 (t, (V : Int)))
      have Hsz := Lib.hid (show w1.heap.size ≤ (wr.alloc (.cells #[.int .i64 t, .int .u64 (V : Int)] 102)).heap.size by simp; omega)
      have tok1 : True := trivial
      clear hm ht
      go_wp2_with (first
        | (have htok := tok1; at_builtin; refine wpList_append_rd _ rfl (.tmp 49) (.tmp 57) _ rfl w1.heap.size 102 i1 (.agg #[.int .i64 0, .int .u64 0]) 2 16 Tryd.underlying41 Hi.out Hz0.out Hz1.out Hz2.out rfl (by decide) (.slice A1 k c1) k _ rfl (Hown1.out.alloc _) _ _ 1 1 (ptsC [(t, (V : Int))]) rfl HrA.out (ptsC_one [(t, (V : Int))]) hk63 hk8 Hsz.out ?_; intro v' wa hown' hgr hat; clear htok tok1; have HQ := Lib.hid (cs_append1 Hown1.out Hown2.out Hbel.out Ht.out hown' hgr); have Hsz2 := Lib.hid (show w1.heap.size ≤ (wa.alloc (.cells #[.int .u64 (V : Int)] 42)).heap.size by have := HQ.out.2.2.size; simp; omega); clear hown' hgr hat)
        | (have htok := HQ; at_builtin; refine wpList_append_rd _ rfl (.tmp 59) (.tmp 61) _ rfl w1.heap.size 42 i2 (.int .u64 0) 1 8 Tryd.underlying90 Hi2.out Hy0.out Hy1.out Hy2.out rfl (by decide) (.slice A2 k c2) k _ rfl (HQ.out.2.1.alloc _) _ _ 1 1 [.int .u64 (V : Int)] rfl (Rd.one wa 42 (.int .u64 (V : Int))) (u64_onee [V]) hk63 hk9 Hsz2.out ?_; intro v'' wb hown' hgr hat; clear htok; have HR := Lib.hid (cs_append2 HQ.out.2.1 HQ.out.1 HQ.out.2.2 hown' hgr); clear hown' hgr hat))
      go_roundw
      case rel => exact ⟨k + 1, by omega, by go_num, HR.out.2.1, HR.out.1, HR.out.2.2⟩
      case measure => simp [intOf]; omega
    · obtain rfl : k = n := by omega
      have hB2 := Lib.hid (Below.call hB1.out Hbel.out hB1.out.size)
      have hw2 : w.heap.size ≤ wr.heap.size := hB2.out.size
      have Hl := Lib.hid (show ∀ p ∈ ptL f s V k, 0 ≤ p.2 ∧ p.2 < 18446744073709551616 from fun p hp => by
        obtain ⟨j, _, rfl⟩ := List.mem_map.1 hp
        exact HV.out)
      have Hrep := Lib.hid (show ∀ x ∈ List.replicate k V, x < 18446744073709551616 from fun x hx => by rw [List.mem_replicate] at hx; have := HV.out; omega)
      have Hrd2 := Lib.hid (Rd.of_own Hown2.out)
      go_wp2_with fail
      refine (encode_ok A1 k c1 (ptL f s V k) _ (HS.out.below hB2.out hB0) (HT.out.call hB2.out (Nat.le_refl _)) (by omega) (Rd.of_own Hown1.out) hn1 Hok.out Hl.out).mono ?_
      rintro e w3 ⟨rfl, hb⟩
      have hB3 := Lib.hid (Below.call hB2.out hb hw2)
      have Hrd3 := Lib.hid ((Hrd2.out.below hb).more hb.size)
      have hsz : (bytesOf (chunkL (ptL f s V k))).size = ((rowP (ptL f s V k)).length + 7) / 8 + 4 := by
        rw [bytesOf_size]; unfold chunkL sealL; rw [List.length_append, fourL_len, packN_len]
      generalize bytesOf (chunkL (ptL f s V k)) = st at hsz ⊢
      have hrow := Hrow.out
      generalize (rowP (ptL f s V k)).length = rl at hsz hrow
      clear hb
      have hbf := Hbf.out
      have hbs := Hbs.out
      have hsf := fun W => size_any f W
      have hss := fun W => size_any s W
      generalize sizeN f = a at hrow hbf hsf
      generalize sizeN s = b at hrow hbs hss
      have Hsf := Lib.hid hsf; have Hss := Lib.hid hss
      obtain ⟨d, hd⟩ : ∃ d, d = (rl + 7) / 8 := ⟨_, rfl⟩
      obtain ⟨g2, hg2⟩ : ∃ g2, g2 = (2 * k + 6) / 8 := ⟨_, rfl⟩
      have hle : st.size ≤ 27 + g2 + 4 := by omega
      have hsz2 : st.size = d + 4 := by omega
      have Hhd := Lib.hid hd; have Hhg := Lib.hid hg2; have Hhr := Lib.hid hrow
      have b1 : 1 ≤ a := hbf.1
      have b2 : a ≤ 68 := hbf.2
      have b3 : 1 ≤ b := hbs.1
      have b4 : b ≤ 68 := hbs.2
      clear hsz hrow hd hg2 hbf hbs hsf hss
      obtain ⟨z, hz⟩ : ∃ z, z = 63 + k := ⟨_, rfl⟩
      have hd0 := Hhd.out
      have hr0 := Hhr.out
      have hg0 := Hhg.out
      have hd1 : d ≤ 100 := by omega
      have hg1 : g2 ≤ 40 := by omega
      have hz1 : z ≤ 183 := by omega
      obtain ⟨t1, ht1⟩ : ∃ t1 : Int, t1 = 8 + a := ⟨_, rfl⟩
      have x1 : IntKind.i64.wrap (8 + a) = t1 := by rw [IntKind.wrap_i64]; omega
      obtain ⟨t2, ht2⟩ : ∃ t2 : Int, t2 = t1 + b := ⟨_, rfl⟩
      have x2 : IntKind.i64.wrap (t1 + b) = t2 := by rw [IntKind.wrap_i64]; omega
      obtain ⟨t3, ht3⟩ : ∃ t3 : Int, t3 = t2 + (k : Int) := ⟨_, rfl⟩
      have x3 : IntKind.i64.wrap (t2 + (k : Int)) = t3 := by rw [IntKind.wrap_i64]; omega
      obtain ⟨t4, ht4⟩ : ∃ t4 : Int, t4 = t3 - 2 := ⟨_, rfl⟩
      have x4 : IntKind.i64.wrap (t3 - 2) = t4 := by rw [IntKind.wrap_i64]; omega
      obtain ⟨t5, ht5⟩ : ∃ t5 : Int, t5 = t4 + (z : Int) := ⟨_, rfl⟩
      have x5 : IntKind.i64.wrap (t4 + (z : Int)) = t5 := by rw [IntKind.wrap_i64]; omega
      obtain ⟨t6, ht6⟩ : ∃ t6 : Int, t6 = t5 + 7 := ⟨_, rfl⟩
      have x6 : IntKind.i64.wrap (t5 + 7) = t6 := by rw [IntKind.wrap_i64]; omega
      have x7 : t6.tdiv 8 = (d : Int) := by rw [Int.tdiv_eq_ediv_of_nonneg (by omega)]; omega
      have x7' : t6 / 8 = (d : Int) := by omega
      have x8 : IntKind.i64.wrap ((d : Int)) = (d : Int) := by rw [IntKind.wrap_i64]; omega
      have x9 : IntKind.i64.wrap ((d : Int) + 4) = (d : Int) + 4 := by rw [IntKind.wrap_i64]; omega
      obtain ⟨u1, hu1⟩ : ∃ u1 : Int, u1 = 64 + (k : Int) := ⟨_, rfl⟩
      have y1 : IntKind.i64.wrap (64 + (k : Int)) = u1 := by rw [IntKind.wrap_i64]; omega
      have y2 : IntKind.i64.wrap (u1 - 1) = (z : Int) := by rw [IntKind.wrap_i64]; omega
      obtain ⟨u2, hu2⟩ : ∃ u2 : Int, u2 = 2 * (k : Int) := ⟨_, rfl⟩
      have y3 : IntKind.i64.wrap (2 * (k : Int)) = u2 := by rw [IntKind.wrap_i64]; omega
      obtain ⟨u3, hu3⟩ : ∃ u3 : Int, u3 = u2 + 6 := ⟨_, rfl⟩
      have y4 : IntKind.i64.wrap (u2 + 6) = u3 := by rw [IntKind.wrap_i64]; omega
      have y5 : u3.tdiv 8 = (g2 : Int) := by rw [Int.tdiv_eq_ediv_of_nonneg (by omega)]; omega
      have y5' : u3 / 8 = (g2 : Int) := by omega
      have y6 : IntKind.i64.wrap ((g2 : Int)) = (g2 : Int) := by rw [IntKind.wrap_i64]; omega
      obtain ⟨u4, hu4⟩ : ∃ u4 : Int, u4 = 27 + (g2 : Int) := ⟨_, rfl⟩
      have y7 : IntKind.i64.wrap (27 + (g2 : Int)) = u4 := by rw [IntKind.wrap_i64]; omega
      obtain ⟨u5, hu5⟩ : ∃ u5 : Int, u5 = u4 + 4 := ⟨_, rfl⟩
      have y8 : IntKind.i64.wrap (u4 + 4) = u5 := by rw [IntKind.wrap_i64]; omega
      have y9 : (d : Int) + 4 ≤ u5 := by omega
      have x7q : (8 + a + b + (k : Int) - 2 + (z : Int) + 7).tdiv 8 = (d : Int) := by rw [Int.tdiv_eq_ediv_of_nonneg (by omega)]; omega
      have x7r : (8 + a + b + (k : Int) - 2 + (z : Int) + 7) / 8 = (d : Int) := by omega
      have y5q : (2 * (k : Int) + 6).tdiv 8 = (g2 : Int) := by rw [Int.tdiv_eq_ediv_of_nonneg (by omega)]; omega
      have y5r : (2 * (k : Int) + 6) / 8 = (g2 : Int) := by omega
      have y2q : 64 + (k : Int) - 1 = (z : Int) := by omega
      have y9q : (d : Int) + 4 ≤ 27 + (g2 : Int) + 4 := by omega
      have Hsum2 := Lib.hid (show sumN (mP (List.replicate k V) k) = z by rw [Hsum.out, hz])
      clear hz hle hd0 hr0 hg0 ht1 ht2 ht3 ht4 ht5 ht6 hu1 hu2 hu3 hu4 hu5
      go_wp2_with fail
      refine (Hsf.out _).mono ?_
      rintro e w4 ⟨rfl, hb⟩
      have hB4 := Lib.hid (Below.call hB3.out hb hB3.out.size)
      have Hrd4 := Lib.hid ((Hrd3.out.below hb).more hb.size)
      clear hb
      go_wp2_with fail
      refine (Hss.out _).mono ?_
      rintro e w5 ⟨rfl, hb⟩
      have hB5 := Lib.hid (Below.call hB4.out hb hB4.out.size)
      have Hrd5 := Lib.hid ((Hrd4.out.below hb).more hb.size)
      clear hb
      go_wp2_with fail
      refine (msize_any A2 k c2 (List.replicate k V) _ (HT.out.call hB5.out (Nat.le_refl _)) Hrd5.out (by omega) Hrep.out).mono ?_
      rintro e w6 ⟨rfl, hb⟩
      rw [Hsum2.out]
      have hB6 := Lib.hid (Below.call hB5.out hb hB5.out.size)
      have Hrd6 := Lib.hid ((Hrd5.out.below hb).more hb.size)
      clear hb
      go_wp2_with fail
      refine (msize_any A2 k c2 (List.replicate k V) _ (HT.out.call hB6.out (Nat.le_refl _)) Hrd6.out (by omega) Hrep.out).mono ?_
      rintro e w7 ⟨rfl, hb⟩
      rw [Hsum2.out]
      have hB7 := Lib.hid (Below.call hB6.out hb hB6.out.size)
      clear hb
      go_wp2
      go_ret
      exact ⟨rfl, hB7.out⟩
end Go.Proofs.YtiohnehccmbplaaDoor
