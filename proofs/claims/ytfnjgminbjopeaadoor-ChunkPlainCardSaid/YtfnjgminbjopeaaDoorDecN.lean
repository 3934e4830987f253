/- What is encoded is decoded; one byte turned is seen in the sum: plain facts. -/
import Derived.Test.YtfnjgminbjopeaaDoorChunkDec
import Derived.Test.YtfnjgminbjopeaaDoorMaskRes
import Derived.Test.YtfnjgminbjopeaaDoorTicksRef
namespace Go.Proofs.YtfnjgminbjopeaaDoor
open Go.RowKit
set_option linter.unusedVariables false

theorem take_getD2 {l : List Int} {k i : Nat} (h : i < k) : (l.take k).getD i 0 = l.getD i 0 := by
  rw [List.getD_eq_getElem?_getD, List.getD_eq_getElem?_getD, List.getElem?_take, if_pos h]
theorem tNext_step2 {l : List Int} {k : Nat} (hk : k < l.length) : tNext (l.take k) (stepAt l k) = l.getD k 0 := by
  have hl : (l.take k).length = k := by rw [List.length_take]; omega
  unfold tNext stepAt
  rw [hl]
  split
  · rename_i h; rw [h]
  · split
    · rename_i h; rw [take_getD2 (by omega), h]; omega
    · rw [take_getD2 (by omega), take_getD2 (by omega)]; omega
theorem wavesL_at2 {s : List Int} {k : Nat} {y : Int} (h : s[k]? = some y) : wavesL s = wavesL (s.take k) ++ (waveBits y ++ wavesL (s.drop (k + 1))) := by
  have hk : k < s.length := (List.getElem?_eq_some_iff.1 h).1
  have e : s = s.take k ++ (y :: s.drop (k + 1)) := by
    have : s.drop k = y :: s.drop (k + 1) := by
      rw [List.drop_eq_getElem_cons hk]; congr 1; exact (List.getElem?_eq_some_iff.1 h).2
    rw [← this, List.take_append_drop]
  conv => lhs; rw [e]
  simp [wavesL]
/-- Ticks behind some bits, and ahead of some, are read as they were put. -/
theorem rdT_mid (A R : List Bool) (l : List Int) (hl : ∀ t ∈ l, Tick t) : rdT (A ++ (ticksBits l ++ R)) l.length [] A.length = .ok l (A.length + (ticksBits l).length) := by
  have key : ∀ (d k : Nat), k + d = l.length → rdT (A ++ (ticksBits l ++ R)) d (l.take k) (A.length + (wavesL ((stepsL l).take k)).length) = .ok l (A.length + (ticksBits l).length) := by
    intro d
    induction d with
    | zero =>
      intro k hk
      have e1 : l.take k = l := List.take_of_length_le (by omega)
      have e2 : (stepsL l).take k = stepsL l := List.take_of_length_le (by rw [stepsL_len]; omega)
      rw [e1, e2]; rfl
    | succ d ih =>
      intro k hk
      have hkl : k < l.length := by omega
      have hst := stepsL_get l k hkl
      have hr := stepAt_range l hl k
      have hgw : getW (A ++ (ticksBits l ++ R)) (A.length + (wavesL ((stepsL l).take k)).length) = .ok (stepAt l k) (sizeN (stepAt l k)).toNat := by
        have e : A ++ (ticksBits l ++ R) = (A ++ wavesL ((stepsL l).take k)) ++ (waveBits (stepAt l k) ++ (wavesL ((stepsL l).drop (k + 1)) ++ R)) := by
          unfold ticksBits
          rw [wavesL_at2 hst]; simp only [List.append_assoc]
        rw [e, ← List.length_append]
        exact getW_wave _ _ _ (by omega)
      have hget : l[k]? = some (l.getD k 0) := by rw [List.getD_eq_getElem?_getD, List.getElem?_eq_getElem hkl]; rfl
      obtain ⟨t0, t1⟩ := hl _ (List.mem_of_getElem? hget)
      have htn := tNext_step2 hkl
      rw [rdT_next hgw (by intro h; exact h.2 (by omega)) (by rw [htn]; exact ⟨t0, t1⟩), htn, ← take_snoc hget]
      have hlen : A.length + (wavesL ((stepsL l).take k)).length + (sizeN (stepAt l k)).toNat = A.length + (wavesL ((stepsL l).take (k + 1))).length := by
        have := waveBits_len (stepAt l k)
        rw [wavesL_next hst, List.length_append]; omega
      rw [hlen]
      exact ih (k + 1) (by omega)
  have := key l.length 0 (by omega)
  simpa [wavesL] using this

theorem seal_len (xs : List Nat) : (sealL xs).length = xs.length + 4 := by unfold sealL; rw [List.length_append, fourL_len]
theorem seal_take (xs : List Nat) : (sealL xs).take ((sealL xs).length - 4) = xs := by
  rw [seal_len, Nat.add_sub_cancel]; unfold sealL; exact List.take_left
theorem seal_drop (xs : List Nat) : (sealL xs).drop ((sealL xs).length - 4) = fourL (sumL xs) := by
  rw [seal_len, Nat.add_sub_cancel]; unfold sealL; exact List.drop_left
theorem zip_split {l : List (Int × Int)} (h : ∀ p ∈ l, 0 ≤ p.2) : zipP (tsOf l) (vsOf l) = l := by
  unfold zipP tsOf vsOf
  induction l with
  | nil => rfl
  | cons p l ih =>
    have h2 := h p List.mem_cons_self
    rw [List.map_cons, List.map_cons, List.zipWith_cons_cons, ih (fun q hq => h q (List.mem_cons_of_mem _ hq))]
    congr 1
    obtain ⟨a, b⟩ := p
    simp only at h2 ⊢
    congr 1
    omega
theorem row_bits (l : List (Int × Int)) : ∃ R, rbits (packN (rowP l)) = [] ++ (bitsN l.length 8 ++ ((ticksBits (tsOf l) ++ maskB (vsOf l)) ++ R)) := by
  refine ⟨(rbits (packN (rowP l))).drop (rowP l).length, ?_⟩
  have h := List.take_append_drop (rowP l).length (rbits (packN (rowP l)))
  rw [rbits_pack] at h
  conv => lhs; rw [← h]
  unfold rowP; simp only [List.nil_append, List.append_assoc]
theorem tsOf_len (l : List (Int × Int)) : (tsOf l).length = l.length := List.length_map _
theorem vsOf_len (l : List (Int × Int)) : (vsOf l).length = l.length := List.length_map _
theorem ptR_row {l : List (Int × Int)} (hok : ∀ j, j < l.length → okAt l j) (hn : l.length ≤ 120) (hv : ∀ p ∈ l, 0 ≤ p.2 ∧ p.2 < 18446744073709551616) : ptR (packN (rowP l)) = .ok l := by
  obtain ⟨R, hR⟩ := row_bits l
  have h0 : (packN (rowP l)).length ≠ 0 := by
    rw [packN_len]; unfold rowP; rw [List.length_append, bitsN_len]; omega
  have hn8 : vAt (rbits (packN (rowP l))) 0 8 = l.length := by
    rw [hR]; exact vAt_mid [] _ l.length 8 0 rfl (by omega)
  have ht := rdT_mid (bitsN l.length 8) (maskB (vsOf l) ++ R) (tsOf l) (okAt_tick rfl hok)
  rw [tsOf_len, bitsN_len] at ht
  have hm := rdM_mask (bitsN l.length 8 ++ ticksBits (tsOf l)) R (vsOf_lt hv)
  rw [vsOf_len, List.length_append, bitsN_len] at hm
  have e1 : rbits (packN (rowP l)) = bitsN l.length 8 ++ (ticksBits (tsOf l) ++ (maskB (vsOf l) ++ R)) := by rw [hR]; simp only [List.nil_append, List.append_assoc]
  have e2 : rbits (packN (rowP l)) = bitsN l.length 8 ++ ticksBits (tsOf l) ++ (maskB (vsOf l) ++ R) := by rw [e1]; simp only [List.append_assoc]
  rw [← e1] at ht
  rw [← e2] at hm
  unfold ptR
  rw [if_neg h0, hn8, if_neg (by omega), ht]
  simp only
  rw [hm]
  simp only
  rw [zip_split (fun p hp => (hv p hp).1)]
theorem decR_chunk {l : List (Int × Int)} (hok : ∀ j, j < l.length → okAt l j) (hn : l.length ≤ 120) (hv : ∀ p ∈ l, 0 ≤ p.2 ∧ p.2 < 18446744073709551616) : decR (chunkL l) = .ok l := by
  have h5 : ¬ (chunkL l).length < 5 := by
    unfold chunkL; rw [seal_len, packN_len]; unfold rowP; rw [List.length_append, bitsN_len]; omega
  unfold decR
  rw [if_neg h5]
  unfold chunkL
  rw [seal_take, seal_drop, if_neg (fun h => h rfl), ptR_row hok hn hv]
  simp only
  rw [if_pos ⟨hok, by first | rfl | trivial⟩]

theorem xor_high {a b : Nat} (ha : a < 2147483648) (hb : b < 2147483648) : a ^^^ polyN ≠ b := by
  intro h
  have h1 := congrArg (fun n => n.testBit 31) h
  simp only [Nat.testBit_xor] at h1
  rw [Nat.testBit_lt_two_pow (x := a) (i := 31) ha, Nat.testBit_lt_two_pow (x := b) (i := 31) hb] at h1
  exact absurd h1 (by decide)
theorem xor_cancel {a b c : Nat} (h : a ^^^ c = b ^^^ c) : a = b := by
  have := congrArg (· ^^^ c) h
  simpa [Nat.xor_assoc] using this
theorem crcStep_inj {a b : Nat} (ha : a < 4294967296) (hb : b < 4294967296) (h : crcStep a = crcStep b) : a = b := by
  unfold crcStep at h
  rcases Nat.mod_two_eq_zero_or_one a with e1 | e1 <;> rcases Nat.mod_two_eq_zero_or_one b with e2 | e2 <;> rw [e1, e2] at h
  · simp at h; omega
  · simp only [Nat.mul_zero, Nat.xor_zero, Nat.mul_one] at h
    exact absurd h.symm (xor_high (by omega) (by omega))
  · simp only [Nat.mul_zero, Nat.xor_zero, Nat.mul_one] at h
    exact absurd h (xor_high (by omega) (by omega))
  · have := xor_cancel h; omega
theorem crcIter_inj {a b : Nat} (ha : a < 4294967296) (hb : b < 4294967296) : ∀ k, crcIter k a = crcIter k b → a = b
  | 0, h => h
  | k + 1, h => crcIter_inj ha hb k (crcStep_inj (crcIter_lt a ha k) (crcIter_lt b hb k) h)
theorem crcByte_state {a b x : Nat} (ha : a < 4294967296) (hb : b < 4294967296) (hx : x < 256) (h : crcByte a x = crcByte b x) : a = b :=
  xor_cancel (crcIter_inj (Nat.xor_lt_two_pow (n := 32) ha (by omega)) (Nat.xor_lt_two_pow (n := 32) hb (by omega)) 8 h)
theorem crcByte_byte {c x y : Nat} (hc : c < 4294967296) (hx : x < 256) (hy : y < 256) (h : crcByte c x = crcByte c y) : x = y := by
  have := crcIter_inj (Nat.xor_lt_two_pow (n := 32) hc (by omega)) (Nat.xor_lt_two_pow (n := 32) hc (by omega)) 8 h
  rw [Nat.xor_comm c x, Nat.xor_comm c y] at this
  exact xor_cancel this
theorem crcFold_inj : ∀ (s : List Nat) (a b : Nat), (∀ x ∈ s, x < 256) → a < 4294967296 → b < 4294967296 → s.foldl crcByte a = s.foldl crcByte b → a = b
  | [], _, _, _, _, _, h => h
  | x :: s, a, b, hs, ha, hb, h => by
    have hx := hs x List.mem_cons_self
    exact crcByte_state ha hb hx (crcFold_inj s _ _ (fun y hy => hs y (List.mem_cons_of_mem _ hy)) (crcByte_lt a x ha hx) (crcByte_lt b x hb hx) h)
theorem crc_one {p s : List Nat} {x y : Nat} (hp : ∀ z ∈ p, z < 256) (hs : ∀ z ∈ s, z < 256) (hx : x < 256) (hy : y < 256) (h : crcL (p ++ x :: s) = crcL (p ++ y :: s)) : x = y := by
  have hc := crcL_lt p hp
  unfold crcL at h hc
  rw [List.foldl_append, List.foldl_append, List.foldl_cons, List.foldl_cons] at h
  exact crcByte_byte hc hx hy (crcFold_inj s _ _ hs (crcByte_lt _ x hc hx) (crcByte_lt _ y hc hy) h)
theorem sum_inj {a b : List Nat} (ha : ∀ x ∈ a, x < 256) (hb : ∀ x ∈ b, x < 256) (h : sumL a = sumL b) : crcL a = crcL b := by
  have h1 := crcL_lt a ha
  have h2 := crcL_lt b hb
  unfold sumL at h
  omega
theorem four_inj {a b : Nat} (ha : a < 4294967296) (hb : b < 4294967296) (h : fourL a = fourL b) : a = b := by
  unfold fourL at h
  injection h with h1 h
  injection h with h2 h
  injection h with h3 h
  injection h with h4 h
  omega
theorem set_split {xs : List Nat} {i x : Nat} (h : xs[i]? = some x) (y : Nat) : xs = xs.take i ++ x :: xs.drop (i + 1) ∧ xs.set i y = xs.take i ++ y :: xs.drop (i + 1) := by
  have hi : i < xs.length := (List.getElem?_eq_some_iff.1 h).1
  have hx : xs[i] = x := (List.getElem?_eq_some_iff.1 h).2
  refine ⟨?_, ?_⟩
  · conv => lhs; rw [← List.take_append_drop i xs, List.drop_eq_getElem_cons hi, hx]
  · rw [List.set_eq_take_append_cons_drop, if_pos hi]
/-- One byte of a sealed text turned: the sum is another one. -/
theorem turned_sum {b : List Nat} {i x y : Nat} (hb : ∀ z ∈ b, z < 256) (hi : (sealL b)[i]? = some x) (hy : y < 256) (hne : y ≠ x) :
    fourL (sumL (((sealL b).set i y).take (((sealL b).set i y).length - 4))) ≠ ((sealL b).set i y).drop (((sealL b).set i y).length - 4) := by
  have hlen : ((sealL b).set i y).length - 4 = b.length := by rw [List.length_set, seal_len, Nat.add_sub_cancel]
  rw [hlen]
  have hil : i < b.length + 4 := by have := (List.getElem?_eq_some_iff.1 hi).1; rw [seal_len] at this; exact this
  by_cases hib : i < b.length
  · have e : (sealL b).set i y = b.set i y ++ fourL (sumL b) := by unfold sealL; exact List.set_append_left _ _ hib
    have hxb : b[i]? = some x := by unfold sealL at hi; rwa [List.getElem?_append_left hib] at hi
    have hl2 : b.length = (b.set i y).length := by rw [List.length_set]
    rw [e]
    conv => lhs; rw [hl2, List.take_left]
    conv => rhs; rw [hl2, List.drop_left]
    intro h
    obtain ⟨s1, s2⟩ := set_split hxb y
    have hset : ∀ z ∈ b.set i y, z < 256 := fun z hz => by
      rcases List.mem_or_eq_of_mem_set hz with h' | h'
      · exact hb z h'
      · rw [h']; exact hy
    have hc := sum_inj hset hb (four_inj (sumL_lt _) (sumL_lt _) h)
    rw [s2] at hc
    conv at hc => rhs; rw [s1]
    exact hne (crc_one (fun z hz => hb z (List.mem_of_mem_take hz)) (fun z hz => hb z (List.mem_of_mem_drop hz)) hy (hb x (List.mem_of_getElem? hxb)) hc)
  · have e : (sealL b).set i y = b ++ (fourL (sumL b)).set (i - b.length) y := by unfold sealL; exact List.set_append_right _ _ (by omega)
    rw [e, List.take_left, List.drop_left]
    intro h
    have hx2 : (fourL (sumL b))[i - b.length]? = some x := by unfold sealL at hi; rwa [List.getElem?_append_right (by omega)] at hi
    have h2 : ((fourL (sumL b)).set (i - b.length) y)[i - b.length]? = some y := by
      rw [List.getElem?_set_self (by rw [fourL_len]; omega)]
    rw [← h, hx2] at h2
    injection h2 with h2
    exact hne h2.symm
theorem decR_turned {b : List Nat} {i x y : Nat} (hb : ∀ z ∈ b, z < 256) (h1 : 1 ≤ b.length) (hi : (sealL b)[i]? = some x) (hy : y < 256) (hne : y ≠ x) : decR ((sealL b).set i y) = .err 8 := by
  unfold decR
  rw [if_neg (by rw [List.length_set, seal_len]; omega), if_pos (turned_sum hb hi hy hne)]
theorem decR_short {b : List Nat} (h : b.length < 5) : decR b = .err 0 := by unfold decR; rw [if_pos h]
end Go.Proofs.YtfnjgminbjopeaaDoor
