/- ChunkCodes by its contract: it returns true. -/
import Derived.Test.YtfnjgminbjopeaaDoorRowOf
import Derived.Test.YtfnjgminbjopeaaDoorDecN
import Derived.Test.YtfnjgminbjopeaaDoorPtsRef
import Derived.Test.YtfnjgminbjopeaaDoorChunked
namespace Go.Proofs.YtfnjgminbjopeaaDoor
open Go.RowKit
set_option linter.unusedVariables false

set_option maxRecDepth 100000 in
theorem pointsFault_long (A : Option Addr) (n c : Nat) (w : World) (hn : 120 < n) :
    Calls Tryd.prog 18 #[.slice A n c] w fun e w' => e = .returned (.agg #[.int .i64 2, .int .i64 (-1)]) ∧ Below w.heap.size w w' := by
  have hn' : (120 : Int) < n := by omega
  go_enter Tryd.func18, Tryd.ntmps18
  go_wp2
  (try simp only [Exit.inBlock, Exit.then])
  have HB3 := (Blk.new w 29 #[.int .i64 2, .int .i64 (-1)]).alloc (.cells #[.int .i64 2, .int .i64 (-1)] 29)
  refine bodyPost_ret (res_pf _ _ _ _ _ _ rfl HB3) rfl ?_
  exact ⟨rfl, by go_grown⟩
theorem codeAt_11 (l : List (Int × Int)) (i : Nat) : codeAt l i < 11 := by unfold codeAt; split <;> omega
theorem keep2d {B : Nat} {w w' : World} {b : Nat} {v1 v2 : Value} (hb : Below B w w') (h1 : b < B) (h : w.cell? ⟨b, 0, none⟩ = some v1 ∧ w.cell? ⟨b, 1, none⟩ = some v2) : w'.cell? ⟨b, 0, none⟩ = some v1 ∧ w'.cell? ⟨b, 1, none⟩ = some v2 := by
  rw [hb.cell (p := ⟨b, 0, none⟩) h1, hb.cell (p := ⟨b, 1, none⟩) h1]; exact h
theorem chunkL_len (l : List (Int × Int)) (hn : l.length ≤ 120) (hl : ∀ p ∈ l, 0 ≤ p.2 ∧ p.2 < 18446744073709551616) : 5 ≤ (chunkL l).length ∧ (chunkL l).length ≤ 100000 := by
  have h := rowP_len l hn hl
  unfold chunkL
  rw [seal_len, packN_len]
  omega

set_option maxRecDepth 100000 in
set_option maxHeartbeats 8000000 in
theorem chunkCodes_law {es : Nat → Addr} {B : Nat} (A : Option Addr) (n c : Nat) (l : List (Int × Int)) (w : World) (hS : Sents es B w) (hT : TabAt w) (hB : B = w.heap.size)
    (hA : Rd w w.heap.size 2 A n (ptsC l)) (hn : n ≤ 140737488351232) (hc : n ≤ c) (hl : ∀ p ∈ l, 0 ≤ p.2 ∧ p.2 < 18446744073709551616) :
    Calls Tryd.prog 6 #[.slice A n c] w fun e w' => e = .returned (.bool true) ∧ Below w.heap.size w w' := by
  have hB0 : B ≤ w.heap.size := Nat.le_of_eq hB
  have hTB : 15 < B := by rw [hB]; exact hT.lt
  have hla : l.length = n := by have := hA.1; rw [flat_len (fun p : Int × Int => [Value.int .i64 p.1, Value.int .u64 p.2]) 2 (fun _ => rfl)] at this; omega
  clear hB
  have Hck := Lib.hid (chunked_any w hS.v hT hTB hB0)
  have HS := Lib.hid hS; have HT := Lib.hid hT; have Hla := Lib.hid hla; have Hl := Lib.hid hl
  have HA := Lib.hid (fun W (hb : Below w.heap.size w W) => (hA.below hb).more hb.size)
  clear hS hT hA hla hl
  by_cases q0 : 30 < n ∧ n ≠ 121
  · have q1 : (30 : Int) < n := by omega
    have q2 : ((n : Int) == 121) = false := by rw [beq_eq_false_iff_ne]; omega
    clear q0
    go_enter Tryd.func6, Tryd.ntmps6
    go_wp2_with (go_at_call 11; refine Hck.out.mono ?_; rintro e w1 ⟨rfl, hb1⟩; have hb1 := Lib.hid hb1)
    go_ret
    exact ⟨rfl, hb1.out⟩
  by_cases q3 : n = 121
  · subst q3
    clear q0 hn
    go_enter Tryd.func6, Tryd.ntmps6
    go_wp2_with fail
    refine (Hck.out).mono ?_
    rintro e w1 ⟨rfl, hb⟩
    have HB1 := Lib.hid hb; clear hb
    go_wp2_with fail
    refine (own_any A 121 c l _ (HA.out _ HB1.out) (by omega)).mono ?_
    rintro e w2 ⟨v1, rfl, ho1, hb⟩
    have HB2 := Lib.hid (Below.call HB1.out hb HB1.out.size)
    obtain ⟨A1, c1, rfl, _, _, hr1⟩ := own_form ho1
    clear hb ho1 hr1
    go_wp2_with fail
    refine (encode_long A1 121 c1 _ (HS.out.below HB2.out hB0).v (by omega)).mono ?_
    rintro e w' ⟨rfl, rfl⟩
    go_wp2_with fail
    refine (pointsFault_long A 121 c _ (by omega)).mono ?_
    rintro e w4 ⟨rfl, hb⟩
    have HB4 := Lib.hid (Below.call HB2.out hb HB2.out.size)
    have hw4 : w.heap.size ≤ w4.heap.size := HB4.out.size
    have HF5 := Lib.hid (show Blk (w4.alloc (.cells #[.int .i64 2, .int .i64 (-1)] 29)).drew w4.heap.size 29 #[.int .i64 2, .int .i64 (-1)] from (Blk.new w4 _ _).drew)
    have HB5 := Lib.hid (show Below w.heap.size w (w4.alloc (.cells #[.int .i64 2, .int .i64 (-1)] 29)).drew from (Below.alloc HB4.out hw4 _).drew)
    have HS5 := Lib.hid HF5.out.duo2
    clear hb
    go_wp2_with fail
    go_region_held3 (fun w' => w'.cell? ⟨w4.heap.size, 0, none⟩ = some (.int .i64 2) ∧ w'.cell? ⟨w4.heap.size, 1, none⟩ = some (.int .i64 (-1)))
      (first | with_reducible exact HS5.out | with_reducible exact HS6.out | with_reducible exact HS8.out)
      (first
        | (go_at_call 14; refine (own_any A 121 c l _ (HA.out _ HB5.out) (by omega)).mono ?_; rintro e w6 ⟨v6, rfl, ho6, hb⟩; have HB6 := Lib.hid (Below.call HB5.out hb HB5.out.size); have HF6 := Lib.hid (HF5.out.below hb HF5.out.lt); have HS6 := Lib.hid HF6.out.duo2; obtain ⟨A6, c6, rfl, _, _, hr6⟩ := own_form ho6; clear hb ho6 hr6)
        | (go_at_call 35; refine (check_long A6 121 c6 _ (HS.out.below HB6.out hB0).v (by omega)).mono ?_; rintro e w' ⟨rfl, rfl⟩)
        | (go_at_call 23; refine (faulted_any _ 2 (-1) 2 (-1) _ (HS.out.below HB6.out hB0) (Nat.le_trans hB0 HB6.out.size) (ErrIs.sent (HS.out.below HB6.out hB0) (k := 1) (by omega)) rfl (.inr rfl)).mono ?_; rintro e w8 ⟨rfl, hb⟩; have HF8 := Lib.hid (HF6.out.below hb HF6.out.lt); have HS8 := Lib.hid HF8.out.duo2; have HB8 := Lib.hid (Below.call HB6.out hb HB6.out.size); clear hb))
    all_goals
      obtain ⟨z0, z1⟩ := HS8.out
      go_wp2_with fail
      refine (faulted_any _ 2 (-1) 2 (-1) _ (HS.out.below HB8.out hB0) (Nat.le_trans hB0 HB8.out.size) (ErrIs.sent (HS.out.below HB8.out hB0) (k := 1) (by omega)) rfl (.inr rfl)).mono ?_
      rintro e w9 ⟨rfl, hb⟩
      have HB9 := Lib.hid (Below.call HB8.out hb HB8.out.size)
      clear hb
      go_wp2
      go_ret
      exact ⟨rfl, HB9.out⟩
  have q4 : n ≤ 30 := by omega
  have q5 : (n : Int) ≤ 30 := by omega
  clear q0 q3 hn
  obtain ⟨i, hi1, hi2, hi3⟩ := first_pt l n
  have Hi2 := Lib.hid hi2; have Hi3 := Lib.hid hi3
  by_cases hin : i < n
  · obtain ⟨cc, hcc⟩ : ∃ cc, cc = codeAt l i := ⟨_, rfl⟩
    have hc11 : cc < 11 := by rw [hcc]; exact codeAt_11 l i
    have hc0 : (0 : Int) < (cc : Int) + 1 := by omega
    have Hbad := Lib.hid (hi3 hin); have Hcc := Lib.hid hcc
    have Hpf := Lib.hid (pfV_bad l n i cc hin hcc.symm)
    clear hi2 hi3 hcc
    go_enter Tryd.func6, Tryd.ntmps6
    go_wp2_with fail
    refine (Hck.out).mono ?_
    rintro e w1 ⟨rfl, hb⟩
    have HB1 := Lib.hid hb; clear hb
    go_wp2_with fail
    refine (own_any A n c l _ (HA.out _ HB1.out) (by omega)).mono ?_
    rintro e w2 ⟨v1, rfl, ho1, hb⟩
    have HB2 := Lib.hid (Below.call HB1.out hb HB1.out.size)
    obtain ⟨A1, c1, rfl, _, _, hr1⟩ := own_form ho1
    have HR1 := Lib.hid hr1
    clear hb ho1 hr1
    go_wp2_with fail
    refine (encode_bad A1 n c1 l i _ (HS.out.below HB2.out hB0).v (Nat.le_trans hB0 HB2.out.size) HR1.out (by omega) hin Hi2.out Hbad.out).mono ?_
    rintro e w3 ⟨pb, rfl, hpb, hpl, hp0, hp1, hb⟩
    have HB3 := Lib.hid (Below.call HB2.out hb HB2.out.size)
    rw [← Hcc.out] at hp1
    have Hei := Lib.hid (ErrIs.fault (HS.out.below HB3.out hB0) (k := cc) hc11 hpl hp0 hp1)
    clear hb hpb hpl hp0 hp1
    go_wp2_with fail
    refine (pointsFault_any A n c l i _ (HA.out _ HB3.out) (by omega) hi1 Hi2.out (fun _ => Hbad.out)).mono ?_
    rintro e w4 ⟨rfl, hb⟩
    rw [Hpf.out]
    have HB4 := Lib.hid (Below.call HB3.out hb HB3.out.size)
    have Hei4 := Lib.hid (Hei.out.below hb (Nat.le_refl _))
    have hw4 : w.heap.size ≤ w4.heap.size := HB4.out.size
    have HF5 := Lib.hid (show Blk (w4.alloc (.cells #[.int .i64 ((cc : Int) + 1), .int .i64 i] 29)).drew w4.heap.size 29 #[.int .i64 ((cc : Int) + 1), .int .i64 i] from (Blk.new w4 _ _).drew)
    have HB5 := Lib.hid (show Below w.heap.size w (w4.alloc (.cells #[.int .i64 ((cc : Int) + 1), .int .i64 i] 29)).drew from (Below.alloc HB4.out hw4 _).drew)
    have Hb45 := Lib.hid (show Below w4.heap.size w4 (w4.alloc (.cells #[.int .i64 ((cc : Int) + 1), .int .i64 i] 29)).drew from (Below.alloc (Below.refl _ _) (Nat.le_refl _) _).drew)
    have HS5 := Lib.hid HF5.out.duo2
    clear hb
    go_wp2_with fail
    go_region_held3 (fun w' => w'.cell? ⟨w4.heap.size, 0, none⟩ = some (.int .i64 ((cc : Int) + 1)) ∧ w'.cell? ⟨w4.heap.size, 1, none⟩ = some (.int .i64 i))
      (first | with_reducible exact HS5.out | with_reducible exact HS6.out | with_reducible exact HS7.out | with_reducible exact HS8.out)
      (first
        | (go_at_call 14; refine (own_any A n c l _ (HA.out _ HB5.out) (by omega)).mono ?_; rintro e w6 ⟨v6, rfl, ho6, hb⟩; have HB6 := Lib.hid (Below.call HB5.out hb HB5.out.size); have HF6 := Lib.hid (HF5.out.below hb HF5.out.lt); have HS6 := Lib.hid HF6.out.duo2; have Hb46 := Lib.hid (Below.call Hb45.out hb Hb45.out.size); obtain ⟨A6, c6, rfl, _, _, hr6⟩ := own_form ho6; have HR6 := Lib.hid hr6; clear hb ho6 hr6)
        | (go_at_call 35; refine (check_any A6 n c6 l i _ (HS.out.below HB6.out hB0).v (Nat.le_trans hB0 HB6.out.size) HR6.out (by omega) hi1 Hi2.out (fun _ => Hbad.out)).mono ?_; rintro e w7 ⟨_, hbd, hb⟩; obtain ⟨pb7, rfl, hpb, hpl, hp0, hp1⟩ := hbd hin; rw [← Hcc.out] at hp1; have HB7 := Lib.hid (Below.call HB6.out hb HB6.out.size); have HF7 := Lib.hid (HF6.out.below hb HF6.out.lt); have HS7 := Lib.hid HF7.out.duo2; have Hb47 := Lib.hid (Below.call Hb46.out hb Hb46.out.size); have Hei7 := Lib.hid (ErrIs.fault (HS.out.below HB7.out hB0) (k := cc) hc11 hpl hp0 hp1); clear hb hbd hpb hpl hp0 hp1)
        | (go_at_call 23; refine (faulted_any _ _ _ ((cc : Int) + 1) i _ (HS.out.below HB7.out hB0) (Nat.le_trans hB0 HB7.out.size) Hei7.out rfl (.inr rfl)).mono ?_; rintro e w8 ⟨rfl, hb⟩; have HF8 := Lib.hid (HF7.out.below hb HF7.out.lt); have HS8 := Lib.hid HF8.out.duo2; have HB8 := Lib.hid (Below.call HB7.out hb HB7.out.size); have Hb48 := Lib.hid (Below.call Hb47.out hb Hb47.out.size); clear hb))
    all_goals
      obtain ⟨z0, z1⟩ := HS8.out
      have Hei8 := Lib.hid (Hei4.out.below Hb48.out (Nat.le_refl _))
      go_wp2_with fail
      refine (faulted_any _ _ _ ((cc : Int) + 1) i _ (HS.out.below HB8.out hB0) (Nat.le_trans hB0 HB8.out.size) Hei8.out rfl (.inr rfl)).mono ?_
      rintro e w9 ⟨rfl, hb⟩
      have HB9 := Lib.hid (Below.call HB8.out hb HB8.out.size)
      clear hb
      go_wp2
      go_ret
      exact ⟨rfl, HB9.out⟩
  obtain rfl : i = n := by omega
  have Hpf := Lib.hid (pfV_ok l i)
  have hcl := chunkL_len l (by rw [Hla.out]; omega) Hl.out
  have Hdec := Lib.hid (decR_chunk (by rw [Hla.out]; exact hi2) (by rw [Hla.out]; omega) Hl.out)
  have Hd := Lib.hid (fun W (hf : Below w.heap.size w W) => decode_any (chunkL l) W (HS.out.below hf hB0).v (HT.out.call hf (Nat.le_refl _)) hTB (Nat.le_trans hB0 hf.size) (chunkL_256 l) hcl.2)
  have He := Lib.hid (fun A1 c1 W (hf : Below w.heap.size w W) (hr : Rd W W.heap.size 2 A1 i (ptsC l)) => encode_ok A1 i c1 l W (HS.out.below hf hB0).v (HT.out.call hf (Nat.le_refl _)) (Nat.le_trans hB0 hf.size) hr (by omega) Hi2.out Hl.out)
  have Hco := Lib.hid (fun W (hf : Below w.heap.size w W) => chunkOf_any A i c l W (HA.out W hf) (by omega) Hi2.out Hl.out)
  generalize bytesOf (chunkL l) = st at Hd He Hco
  clear hi2 hi3 hin hcl
  go_enter Tryd.func6, Tryd.ntmps6
  go_wp2_with fail
  refine (Hck.out).mono ?_
  rintro e w1 ⟨rfl, hb⟩
  have HB1 := Lib.hid hb; clear hb
  go_wp2_with fail
  refine (own_any A i c l _ (HA.out _ HB1.out) (by omega)).mono ?_
  rintro e w2 ⟨v1, rfl, ho1, hb⟩
  have HB2 := Lib.hid (Below.call HB1.out hb HB1.out.size)
  obtain ⟨A1, c1, rfl, _, _, hr1⟩ := own_form ho1
  have HR1 := Lib.hid hr1
  clear hb ho1 hr1
  go_wp2_with fail
  refine (He.out A1 c1 _ HB2.out HR1.out).mono ?_
  rintro e w3 ⟨rfl, hb⟩
  have HB3 := Lib.hid (Below.call HB2.out hb HB2.out.size)
  clear hb
  go_wp2_with fail
  refine (pointsFault_any A i c l i _ (HA.out _ HB3.out) (by omega) hi1 Hi2.out Hi3.out).mono ?_
  rintro e w4 ⟨rfl, hb⟩
  rw [Hpf.out]
  have HB4 := Lib.hid (Below.call HB3.out hb HB3.out.size)
  have hw4 : w.heap.size ≤ w4.heap.size := HB4.out.size
  have HF5 := Lib.hid (show Blk (w4.alloc (.cells #[.int .i64 0, .int .i64 (-1)] 29)).drew w4.heap.size 29 #[.int .i64 0, .int .i64 (-1)] from (Blk.new w4 _ _).drew)
  have HB5 := Lib.hid (show Below w.heap.size w (w4.alloc (.cells #[.int .i64 0, .int .i64 (-1)] 29)).drew from (Below.alloc HB4.out hw4 _).drew)
  have HS5 := Lib.hid HF5.out.duo2
  clear hb
  go_wp2_with fail
  go_region_held3 (fun w' => w'.cell? ⟨w4.heap.size, 0, none⟩ = some (.int .i64 0) ∧ w'.cell? ⟨w4.heap.size, 1, none⟩ = some (.int .i64 (-1)))
    (first | with_reducible exact HS5.out | with_reducible exact HS6.out | with_reducible exact HS7.out | with_reducible exact HS8.out)
    (first
      | (go_at_call 14; refine (own_any A i c l _ (HA.out _ HB5.out) (by omega)).mono ?_; rintro e w6 ⟨v6, rfl, ho6, hb⟩; have HB6 := Lib.hid (Below.call HB5.out hb HB5.out.size); have HF6 := Lib.hid (HF5.out.below hb HF5.out.lt); have HS6 := Lib.hid HF6.out.duo2; obtain ⟨A6, c6, rfl, _, _, hr6⟩ := own_form ho6; have HR6 := Lib.hid hr6; clear hb ho6 hr6)
      | (go_at_call 35; refine (check_any A6 i c6 l i _ (HS.out.below HB6.out hB0).v (Nat.le_trans hB0 HB6.out.size) HR6.out (by omega) hi1 Hi2.out Hi3.out).mono ?_; rintro e w7 ⟨hnil, _, hb⟩; obtain rfl := hnil rfl; have HB7 := Lib.hid (Below.call HB6.out hb HB6.out.size); have HF7 := Lib.hid (HF6.out.below hb HF6.out.lt); have HS7 := Lib.hid HF7.out.duo2; clear hb hnil)
      | (go_at_call 23; refine (faulted_any .nilIface 0 (-1) 0 (-1) _ (HS.out.below HB7.out hB0) (Nat.le_trans hB0 HB7.out.size) ErrIs.nil rfl (.inl rfl)).mono ?_; rintro e w8 ⟨rfl, hb⟩; have HF8 := Lib.hid (HF7.out.below hb HF7.out.lt); have HS8 := Lib.hid HF8.out.duo2; have HB8 := Lib.hid (Below.call HB7.out hb HB7.out.size); clear hb))
  all_goals
    obtain ⟨z0, z1⟩ := HS8.out
    go_wp2_with fail
    refine (Hd.out _ HB8.out).mono ?_
    rintro e w9 ⟨_, hok, hb⟩
    obtain ⟨v9, rfl, ho9⟩ := hok l Hdec.out
    rw [Hla.out] at ho9
    obtain ⟨A9, c9, rfl, _, _, hr9⟩ := own_form ho9
    have HB9 := Lib.hid (Below.call HB8.out hb HB8.out.size)
    have HR9 := Lib.hid hr9
    clear hok hb ho9 hr9
    go_wp2_with fail
    refine (Hco.out _ HB9.out).mono ?_
    rintro e w10 ⟨rfl, hb⟩
    have HB10 := Lib.hid (Below.call HB9.out hb HB9.out.size)
    have HR10 := Lib.hid ((HR9.out.below hb).more hb.size)
    clear hb
    go_wp2_with fail
    refine (samePoints_eq A9 i c9 A c l _ HR10.out (HA.out _ HB10.out) (by omega)).mono ?_
    rintro e w11 ⟨rfl, hb⟩
    have HB11 := Lib.hid (Below.call HB10.out hb HB10.out.size)
    clear hb
    go_wp2
    go_ret
    exact ⟨rfl, HB11.out⟩
end Go.Proofs.YtfnjgminbjopeaaDoor
