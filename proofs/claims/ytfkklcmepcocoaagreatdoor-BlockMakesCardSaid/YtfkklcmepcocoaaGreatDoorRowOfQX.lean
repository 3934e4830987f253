/- The reference's RowOf and ChunkOf by contracts: of right points. -/
import Derived.Test.YtfkklcmepcocoaaGreatDoorChunkEncQX
import Derived.Test.YtfkklcmepcocoaaGreatDoorMkiX
import Derived.Test.YtfkklcmepcocoaaGreatDoorMaskOfQX
namespace Go.Proofs.YtfkklcmepcocoaaGreatDoor
open Go.RowKit
set_option linter.unusedVariables false

theorem ro_int {w wr wa : World} {v v' v2 : Value} {k : Nat} {l : List Int} {l2 : List Nat} {t : Int} (h1 : wr.ownsRow w.heap.size 3 1 v k (l.map (Value.int .i64))) (h2 : wr.ownsRow w.heap.size 49 1 v2 k (l2.map fun x : Nat => Value.int .u64 (x : Int))) (hb : Below w.heap.size w wr)
    (hown' : wa.ownsRow w.heap.size 3 1 v' (k + 1) (l.map (Value.int .i64) ++ [.int .i64 t])) (hgr : (wr.alloc (.cells #[.int .i64 t] 3)).grownBy wa v.ownBlock) :
    wa.ownsRow w.heap.size 3 1 v' (k + 1) ((l ++ [t]).map (Value.int .i64)) ∧ wa.ownsRow w.heap.size 49 1 v2 k (l2.map fun x : Nat => Value.int .u64 (x : Int)) ∧ Below w.heap.size w wa :=
  ⟨by rw [List.map_append]; exact hown', own_after (h2.alloc _) (h1.alloc (.cells #[.int .i64 t] 3)) (by decide) hgr, Below.grown (Below.alloc hb hb.size _) hgr (by have := hb.size; simp; omega) (fun g hg => (own_lt h1 g hg).1)⟩
theorem ro_u64 {w wr wa : World} {v v' v2 : Value} {k m : Nat} {l : List Nat} {l2 : List Int} {t : Nat} (h1 : wr.ownsRow w.heap.size 49 1 v k (l.map fun x : Nat => Value.int .u64 (x : Int))) (h2 : wr.ownsRow w.heap.size 3 1 v2 m (l2.map (Value.int .i64))) (hb : Below w.heap.size w wr)
    (hown' : wa.ownsRow w.heap.size 49 1 v' (k + 1) ((l.map fun x : Nat => Value.int .u64 (x : Int)) ++ [.int .u64 (t : Int)])) (hgr : (wr.alloc (.cells #[.int .u64 (t : Int)] 49)).grownBy wa v.ownBlock) :
    wa.ownsRow w.heap.size 49 1 v' (k + 1) ((l ++ [t]).map fun x : Nat => Value.int .u64 (x : Int)) ∧ wa.ownsRow w.heap.size 3 1 v2 m (l2.map (Value.int .i64)) ∧ Below w.heap.size w wa :=
  ⟨by rw [List.map_append]; exact hown', own_after (h2.alloc _) (h1.alloc (.cells #[.int .u64 (t : Int)] 49)) (by decide) hgr, Below.grown (Below.alloc hb hb.size _) hgr (by have := hb.size; simp; omega) (fun g hg => (own_lt h1 g hg).1)⟩
set_option maxRecDepth 100000 in
set_option maxHeartbeats 4000000 in
theorem rowOf_any (A : Option Addr) (n c : Nat) (l : List (Int × Int)) (w : World) (hA : Rd w w.heap.size 2 A n (ptsC l)) (hn : n ≤ 120) (hok : ∀ j, j < n → okAt l j) (hl : ∀ p ∈ l, 0 ≤ p.2 ∧ p.2 < 18446744073709551616) :
    Calls Tryz.prog 116 #[.slice A n c] w fun e w' => e = .returned (.string (txt (rowP l))) ∧ Below w.heap.size w w' := by
  have hlen : l.length = n := by have := hA.1; rw [flat_len (fun p : Int × Int => [Value.int .i64 p.1, Value.int .u64 p.2]) 2 (fun _ => rfl)] at this; omega
  have hn' : (n : Int) ≤ 120 := by omega
  obtain ⟨i1, hi, hz0, hz1, hz2⟩ := info_parts infoInt
  obtain ⟨i2, hi2, hy0, hy1, hy2⟩ := info_parts infoU64e
  have Hi := Lib.hid hi; have Hz0 := Lib.hid hz0; have Hz1 := Lib.hid hz1; have Hz2 := Lib.hid hz2
  have Hi2 := Lib.hid hi2; have Hy0 := Lib.hid hy0; have Hy1 := Lib.hid hy1; have Hy2 := Lib.hid hy2
  have HA := Lib.hid hA; have Hl := Lib.hid hl; have Hlen := Lib.hid hlen
  have Ht := Lib.hid (okAt_tick hlen hok); have Hv := Lib.hid (vsOf_lt hl)
  have hu : IntKind.u64.wrap (n : Int) = (n : Int) := by rw [IntKind.wrap_u64]; omega
  clear hi hz0 hz1 hz2 hi2 hy0 hy1 hy2 hA hl hlen hok
  go_enter Tryz.func116, Tryz.ntmps116
  go_wp2
  go_loopw [3, 4, 5] (fun v1 v2 iv wr => ∃ k : Nat, k ≤ n ∧ iv = .int .i64 k ∧ wr.ownsRow w.heap.size 3 1 v1 k ((tsOf (l.take k)).map (Value.int .i64)) ∧ wr.ownsRow w.heap.size 49 1 v2 k ((vsOf (l.take k)).map fun x : Nat => Value.int .u64 (x : Int)) ∧ Below w.heap.size w wr) (fun _ _ iv _ => n - (intOf iv).toNat)
  case atStart => exact ⟨0, Nat.zero_le _, rfl, World.ownsRow_nil _ _ _ _, World.ownsRow_nil _ _ _ _, Below.refl _ _⟩
  case round =>
    obtain ⟨k, hk, rfl, hown1, hown2, hbel⟩ := hrel
    obtain ⟨A1, c1, rfl, _, _, _⟩ := own_form hown1
    obtain ⟨A2, c2, rfl, _, _, _⟩ := own_form hown2
    have Hown1 := Lib.hid hown1; have Hown2 := Lib.hid hown2; have Hbel := Lib.hid hbel
    have hwr : w.heap.size ≤ wr.heap.size := hbel.size
    clear hown1 hown2 hbel
    by_cases hkn : k < n
    · obtain ⟨bb, off, y, hAe, had, hy, e0, e1⟩ := HA.out.at2 hkn
      subst hAe
      obtain ⟨y1, y2⟩ := y
      simp only at e0 e1
      have x0 : wr.cell? ⟨bb, off + k * 2, none⟩ = some (.int .i64 y1) := (Hbel.out.cell (p := ⟨bb, off + k * 2, none⟩) had).trans e0
      have hy2 : 0 ≤ y2 := (Hl.out _ (List.mem_of_getElem? hy)).1
      obtain ⟨z, rfl⟩ := Int.eq_ofNat_of_zero_le hy2
      have hk63 : k + 1 ≤ maxLen := by unfold maxLen; omega
      have hk8 : (k + 1) * 8 ≤ 140737488355328 := by omega
      have Hts := Lib.hid (show tsOf (l.take (k + 1)) = tsOf (l.take k) ++ [y1] by unfold tsOf; rw [take_snoc hy, List.map_append]; rfl)
      have Hvs := Lib.hid (show vsOf (l.take (k + 1)) = vsOf (l.take k) ++ [z] by unfold vsOf; rw [take_snoc hy, List.map_append]; rfl)
      have Hx1 := Lib.hid e1
      have Hsz := Lib.hid (show w.heap.size ≤ (wr.alloc (.cells #[.int .i64 y1] 3)).heap.size by simp; omega)
      have tok1 : True := trivial
      clear e0 e1 hy hy2
      go_wp2_with (first
        | (have htok := tok1; at_builtin; refine wpList_append_rd _ rfl (.tmp 12) (.tmp 18) _ rfl w.heap.size 3 i1 (.int .i64 0) 1 8 Tryz.underlying193 Hi.out Hz0.out Hz1.out Hz2.out rfl (by decide) (.slice A1 k c1) k _ rfl (Hown1.out.alloc _) _ _ 1 1 [.int .i64 y1] rfl (Rd.one wr 3 (.int .i64 y1)) (int_one [y1]) hk63 hk8 Hsz.out ?_; intro v' wa hown' hgr hat; clear htok tok1; have HQ := Lib.hid (ro_int Hown1.out Hown2.out Hbel.out hown' hgr); have x1 : wa.cell? ⟨bb, off + k * 2 + 1, none⟩ = some (.int .u64 (z : Int)) := (HQ.out.2.2.cell (p := ⟨bb, off + k * 2 + 1, none⟩) had).trans Hx1.out; have Hsz2 := Lib.hid (show w.heap.size ≤ (wa.alloc (.cells #[.int .u64 (z : Int)] 49)).heap.size by have := HQ.out.2.2.size; simp; omega); clear hown' hgr hat)
        | (have htok := HQ; at_builtin; refine wpList_append_rd _ rfl (.tmp 20) (.tmp 26) _ rfl w.heap.size 49 i2 (.int .u64 0) 1 8 Tryz.underlying196 Hi2.out Hy0.out Hy1.out Hy2.out rfl (by decide) (.slice A2 k c2) k _ rfl (HQ.out.2.1.alloc _) _ _ 1 1 [.int .u64 (z : Int)] rfl (Rd.one wa 49 (.int .u64 (z : Int))) (u64_onee [z]) hk63 hk8 Hsz2.out ?_; intro v'' wb hown' hgr hat; clear htok; have HR := Lib.hid (ro_u64 HQ.out.2.1 HQ.out.1 HQ.out.2.2 hown' hgr); clear hown' hgr hat))
      go_roundw
      case rel => exact ⟨k + 1, by omega, by go_num, by rw [Hts.out]; exact HR.out.2.1, by rw [Hvs.out]; exact HR.out.1, HR.out.2.2⟩
      case measure => simp [intOf]; omega
    · obtain rfl : k = n := by omega
      have htk : l.take k = l := List.take_of_length_le (by rw [Hlen.out]; exact Nat.le_refl _)
      rw [htk] at Hown1 Hown2
      have Hr1 := Lib.hid (Rd.of_own Hown1.out); have Hr2 := Lib.hid (Rd.of_own Hown2.out)
      have hbits : (bitsN k 8).length = 8 := bitsN_len _ _
      have htb : (ticksBits (tsOf l)).length ≤ 8160 := by
        have h := ticksBits_le (tsOf l)
        have h2 : (tsOf l).length = l.length := List.length_map _
        rw [h2, Hlen.out] at h; omega
      have hmb : (maskB (vsOf l)).length ≤ 30720 := by
        have h := sumN_mP (vsOf l) (vsOf l).length Hv.out (Nat.le_refl _)
        have h2 : (vsOf l).length = l.length := List.length_map _
        have h3 : (maskB (vsOf l)).length ≤ 256 * (vsOf l).length := h
        rw [h2, Hlen.out] at h3; omega
      have Hfin := Lib.hid (show txt (bitsN k 8) ++ txt (ticksBits (tsOf l)) ++ txt (maskB (vsOf l)) = txt (rowP l) by rw [txt_append, txt_append]; unfold rowP; rw [Hlen.out, List.append_assoc])
      have hs1 : (txt (bitsN k 8)).size = 8 := by rw [txt_size, hbits]
      have hs2 : (txt (ticksBits (tsOf l))).size ≤ 8160 := by rw [txt_size]; exact htb
      have hs3 : (txt (maskB (vsOf l))).size ≤ 30720 := by rw [txt_size]; exact hmb
      have Hc1 := Lib.hid (fun W => bits_any k 8 (by omega) (by omega) W)
      have Hc2 := Lib.hid (fun W h => ticksOf_any A1 k c1 (tsOf l) W h (by omega) Ht.out)
      have Hc3 := Lib.hid (fun W h => maskOf_any A2 k c2 (vsOf l) W h (by omega) Hv.out)
      generalize txt (bitsN k 8) = t1 at Hfin hs1 Hc1
      generalize txt (ticksBits (tsOf l)) = t2 at Hfin hs2 Hc2
      generalize txt (maskB (vsOf l)) = t3 at Hfin hs3 Hc3
      clear hbits htb hmb htk
      go_wp2_with fail
      refine (Hc1.out _).mono ?_
      rintro e w1 ⟨rfl, hb⟩
      have HB1 := Lib.hid (Below.call Hbel.out hb hwr)
      have Hr1b := Lib.hid ((Hr1.out.below hb).more hb.size); have Hr2b := Lib.hid ((Hr2.out.below hb).more hb.size)
      clear hb
      go_wp2_with fail
      refine (Hc2.out _ Hr1b.out).mono ?_
      rintro e w2 ⟨rfl, hb⟩
      have HB2 := Lib.hid (Below.call HB1.out hb HB1.out.size)
      have Hr2c := Lib.hid ((Hr2b.out.below hb).more hb.size)
      clear hb
      go_wp2_with fail
      refine (Hc3.out _ Hr2c.out).mono ?_
      rintro e w3 ⟨rfl, hb⟩
      have HB3 := Lib.hid (Below.call HB2.out hb HB2.out.size)
      clear hb
      go_wp2
      go_ret
      exact ⟨congrArg (fun b => Ending.returned (.string b)) Hfin.out, HB3.out⟩
theorem rowP_len (l : List (Int × Int)) (hn : l.length ≤ 120) (hl : ∀ p ∈ l, 0 ≤ p.2 ∧ p.2 < 18446744073709551616) : 8 ≤ (rowP l).length ∧ (rowP l).length ≤ 39000 := by
  have h := ticksBits_le (tsOf l)
  have h2 : (tsOf l).length = l.length := List.length_map _
  have h3 := sumN_mP (vsOf l) (vsOf l).length (vsOf_lt hl) (Nat.le_refl _)
  have h4 : (vsOf l).length = l.length := List.length_map _
  have h5 : (maskB (vsOf l)).length ≤ 256 * (vsOf l).length := h3
  rw [h2] at h
  rw [h4] at h5
  unfold rowP
  rw [List.length_append, List.length_append, bitsN_len]
  omega
set_option maxHeartbeats 1000000 in
theorem chunkOf_any (A : Option Addr) (n c : Nat) (l : List (Int × Int)) (w : World) (hA : Rd w w.heap.size 2 A n (ptsC l)) (hn : n ≤ 120) (hok : ∀ j, j < n → okAt l j) (hl : ∀ p ∈ l, 0 ≤ p.2 ∧ p.2 < 18446744073709551616) :
    Calls Tryz.prog 83 #[.slice A n c] w fun e w' => e = .returned (.string (bytesOf (chunkL l))) ∧ Below w.heap.size w w' := by
  have hlen : l.length = n := by have := hA.1; rw [flat_len (fun p : Int × Int => [Value.int .i64 p.1, Value.int .u64 p.2]) 2 (fun _ => rfl)] at this; omega
  have hrl := rowP_len l (by omega) hl
  have Hc := Lib.hid (rowOf_any A n c l w hA hn hok hl)
  have Hp := Lib.hid (fun W => pack_any (rowP l) (by omega) W)
  have Hs := Lib.hid (fun W => seal_any (packN (rowP l)) (packN_256 _) (by rw [packN_len]; omega) W)
  have Hch := Lib.hid (show bytesOf (sealL (packN (rowP l))) = bytesOf (chunkL l) from rfl)
  rw [Hch.out] at Hs
  generalize bytesOf (chunkL l) = t1 at Hs ⊢
  generalize bytesOf (packN (rowP l)) = t2 at Hp Hs
  generalize txt (rowP l) = t3 at Hc Hp
  clear hA hok hl hlen hrl Hch
  go_enter Tryz.func83, Tryz.ntmps83
  go_wp2_with fail
  refine Hc.out.mono ?_
  rintro e w1 ⟨rfl, hb⟩
  have HB1 := Lib.hid hb; clear hb
  go_wp2_with fail
  refine (Hp.out _).mono ?_
  rintro e w2 ⟨rfl, hb⟩
  have HB2 := Lib.hid (Below.call HB1.out hb HB1.out.size); clear hb
  go_wp2_with fail
  refine (Hs.out _).mono ?_
  rintro e w3 ⟨rfl, hb⟩
  have HB3 := Lib.hid (Below.call HB2.out hb HB2.out.size); clear hb
  go_wp2
  go_ret
  exact ⟨rfl, HB3.out⟩
end Go.Proofs.YtfkklcmepcocoaaGreatDoor
