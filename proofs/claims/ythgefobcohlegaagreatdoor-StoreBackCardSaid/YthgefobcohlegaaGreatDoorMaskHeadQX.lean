/- mask.head by its contract; what mask.change returns. -/
import Derived.Test.YthgefobcohlegaaGreatDoorMkmX
import Derived.Test.YthgefobcohlegaaGreatDoorMkkX
import Derived.Test.YthgefobcohlegaaGreatDoorMkeX
import Derived.Laws.Bits64
namespace Go.Proofs.YthgefobcohlegaaGreatDoor
open Go.RowKit
set_option linter.unusedVariables false

theorem rd_at {xs : List Nat} {N q n : Nat} (h : q + n ≤ N) : valN (((rbits xs).drop q).take n) = vAt ((rbits xs).take N) q n := by
  unfold vAt
  rw [List.drop_take, List.take_take, Nat.min_eq_left (by omega)]
theorem Blk.trio {w : World} {b : Nat} {t : TypeId} {v1 v2 v3 : Value} (h : Blk w b t #[v1, v2, v3]) : w.cell? ⟨b, 0, none⟩ = some v1 ∧ w.cell? ⟨b, 1, none⟩ = some v2 ∧ w.cell? ⟨b, 2, none⟩ = some v3 := ⟨h.cell 0, h.cell 1, h.cell 2⟩
theorem ReaderAt.len {w : World} {g p N : Nat} {xs : List Nat} (h : ReaderAt w g xs p N) : ((rbits xs).take N).length = N := by
  rw [List.length_take, rbits_len]
  have := h.2.2.2.1
  omega

theorem res_head (tmps : Array Value) (W : World) (b : Nat) (ty : TypeId) (v0 v1 v2 : Value) (ha : tmps.getD 2 undef = .pointer (some ⟨b, 0, none⟩)) (hB : Blk W b ty #[v0, v1, v2]) :
    (results Tryz.f221 tmps).run Tryz.prog W = .ok (.tuple #[.agg #[v0, v1, v2], tmps.getD 3 undef]) W := by
  obtain ⟨z0, z1, z2⟩ := hB.trio
  simp only [Array.getD_eq_getD_getElem?] at ha
  simp [results, Tryz.results221, go_sem, ha, z0, z1, z2]
theorem res_change (tmps : Array Value) (W : World) (b : Nat) (ty : TypeId) (v0 v1 v2 : Value) (ha : tmps.getD 5 undef = .pointer (some ⟨b, 0, none⟩)) (hB : Blk W b ty #[v0, v1, v2]) :
    (results Tryz.f215 tmps).run Tryz.prog W = .ok (.tuple #[tmps.getD 4 undef, .agg #[v0, v1, v2], tmps.getD 6 undef]) W := by
  obtain ⟨z0, z1, z2⟩ := hB.trio
  simp only [Array.getD_eq_getD_getElem?] at ha
  simp [results, Tryz.results215, go_sem, ha, z0, z1, z2]

set_option maxRecDepth 100000 in
set_option maxHeartbeats 4000000 in
theorem mhead_any {es : Nat → Addr} {B : Nat} (g p N : Nat) (xs : List Nat) (S : List Bool) (w : World) (hSS : S = (rbits xs).take N) (hS : SV es B w) (hB0 : B ≤ w.heap.size) (hBg : B ≤ g) (h : ReaderAt w g xs p N) :
    Calls Tryz.prog 221 #[.pointer (some ⟨g, 0, none⟩)] w fun e w' =>
      (S.length < p + 11 → e = .returned (.tuple #[.agg #[.int .i64 0, .int .i64 0, .int .i64 0], sentV (es 4)])) ∧
      (¬ S.length < p + 11 → 64 < vAt S p 5 + dAt S (p + 5) → e = .returned (.tuple #[.agg #[.int .i64 0, .int .i64 0, .int .i64 0], sentV (es 0)])) ∧
      (¬ S.length < p + 11 → ¬ 64 < vAt S p 5 + dAt S (p + 5) → e = .returned (.tuple #[.agg #[.int .i64 (freshW S p).a, .int .i64 (freshW S p).t, .int .i64 (freshW S p).d], .nilIface]) ∧ ReaderAt w' g xs (p + 11) N) ∧
      Fr (fun k => k = g) w w' := by
  have hSl : S.length = N := by rw [hSS]; exact h.len
  have hg : g < w.heap.size := h.1.lt
  have H0 := Lib.hid (show ReaderAt (w.alloc (.cells #[.int .i64 0, .int .i64 0, .int .i64 0] 316)) g xs p N from ⟨h.1.alloc _, h.2⟩)
  have HS0 := Lib.hid (hS.alloc hB0 (.cells #[.int .i64 0, .int .i64 0, .int .i64 0] 316))
  have HF0 := Lib.hid (show Fr (fun k => k = g) w (w.alloc (.cells #[.int .i64 0, .int .i64 0, .int .i64 0] 316)) from (Fr.refl _ _).alloc _)
  have hz0 : (w.alloc (.cells #[.int .i64 0, .int .i64 0, .int .i64 0] 316)).heap.size = w.heap.size + 1 := by simp
  have hK0 := Lib.hid (Blk.new w 316 #[.int .i64 0, .int .i64 0, .int .i64 0])
  have HSS := Lib.hid hSS; have HSl := Lib.hid hSl; have Hz0 := Lib.hid hz0
  clear hS h hSS hSl hz0
  by_cases h5 : N < p + 5
  · go_enter Tryz.func221, Tryz.ntmps221
    go_wp2_with fail
    refine (get_none g p N xs 5 _ HS0.out (by rw [Hz0.out]; omega) H0.out (by omega) h5).mono ?_
    rintro e w1 ⟨rfl, hb⟩
    have hK1 := Lib.hid (hK0.out.below hb (by rw [Hz0.out]; omega))
    obtain ⟨z0, z1, z2⟩ := hK1.out.trio
    have f0 := hK1.out.frozen 0; have f1 := hK1.out.frozen 1; have f2 := hK1.out.frozen 2
    have Hb := Lib.hid (Fr.call HF0.out hb (by rw [Hz0.out]; omega)); clear hb
    go_wp2
    (try simp only [Exit.inBlock, Exit.then])
    refine bodyPost_ret (v := .tuple #[.agg #[.int .i64 0, .int .i64 0, .int .i64 0], sentV (es 4)]) (by simp [results, Tryz.results221, go_sem, z0, z1, z2]) rfl ?_
    exact ⟨fun _ => rfl, fun a => absurd (show S.length < p + 11 by rw [HSl.out]; omega) a, fun a => absurd (show S.length < p + 11 by rw [HSl.out]; omega) a, ((Hb.out.setCell (.inl (Nat.le_refl _)) _).setCell (.inl (Nat.le_refl _)) _).setCell (.inl (Nat.le_refl _)) _⟩
  · go_enter Tryz.func221, Tryz.ntmps221
    go_wp2_with fail
    refine (get_ok g p N xs 5 _ H0.out (by omega) (by omega)).mono ?_
    rintro e w1 ⟨rfl, hr1, hf1⟩
    rw [rd_at (N := N) (by omega), ← HSS.out]
    have hv5 : vAt S p 5 < 32 := vAt_lt S p 5
    obtain ⟨v5, hv5e⟩ : ∃ v5, v5 = vAt S p 5 := ⟨_, rfl⟩
    rw [← hv5e] at hv5 ⊢
    have HV5 := Lib.hid hv5e
    have hw1 : w.heap.size < w1.heap.size := by have := hf1.size; rw [Hz0.out] at this; omega
    have hK1 := Lib.hid (hf1.blk hK0.out (by omega))
    have Hr1 := Lib.hid hr1; have Hf1 := Lib.hid (Fr.trans HF0.out hf1 (fun k _ h => h))
    have HS1 := Lib.hid (HS0.out.below (hf1.below (B := B) (by rw [Hz0.out]; omega) (fun k hk hs => by omega)) (Nat.le_refl _))
    clear hv5e hr1 hf1
    by_cases h11 : N < p + 11
    · go_wp2_with fail
      refine (get_none g (p + 5) N xs 6 _ HS1.out (by omega) Hr1.out (by omega) (by omega)).mono ?_
      rintro e w2 ⟨rfl, hb⟩
      have hK2 := Lib.hid (hK1.out.below hb hw1)
      obtain ⟨z0, z1, z2⟩ := hK2.out.trio
      have f0 := hK2.out.frozen 0; have f1 := hK2.out.frozen 1; have f2 := hK2.out.frozen 2
      have Hb := Lib.hid (Fr.call Hf1.out hb (by omega)); clear hb
      go_wp2
      (try simp only [Exit.inBlock, Exit.then])
      refine bodyPost_ret (v := .tuple #[.agg #[.int .i64 0, .int .i64 0, .int .i64 0], sentV (es 4)]) (by simp [results, Tryz.results221, go_sem, z0, z1, z2]) rfl ?_
      exact ⟨fun _ => rfl, fun a => absurd (show S.length < p + 11 by rw [HSl.out]; omega) a, fun a => absurd (show S.length < p + 11 by rw [HSl.out]; omega) a, ((Hb.out.setCell (.inl (Nat.le_refl _)) _).setCell (.inl (Nat.le_refl _)) _).setCell (.inl (Nat.le_refl _)) _⟩
    · go_wp2_with fail
      refine (get_ok g (p + 5) N xs 6 _ Hr1.out (by omega) (by omega)).mono ?_
      rintro e w2 ⟨rfl, hr2, hf2⟩
      rw [rd_at (N := N) (by omega), ← HSS.out]
      have hv6 : vAt S (p + 5) 6 < 64 := vAt_lt S (p + 5) 6
      obtain ⟨v6, hv6e⟩ : ∃ v6, v6 = vAt S (p + 5) 6 := ⟨_, rfl⟩
      rw [← hv6e] at hv6 ⊢
      have HV6 := Lib.hid hv6e
      have hK2 := Lib.hid (hf2.blk hK1.out (by omega))
      obtain ⟨z0, z1, z2⟩ := hK2.out.trio
      have f0 := hK2.out.frozen 0; have f1 := hK2.out.frozen 1; have f2 := hK2.out.frozen 2
      have Hr2 := Lib.hid (show ReaderAt w2 g xs (p + 11) N from hr2)
      have Hf2 := Lib.hid (Fr.trans Hf1.out hf2 (fun k _ h => h))
      have hw2 : w.heap.size < w2.heap.size := Nat.lt_of_lt_of_le hw1 hf2.size
      have g0 : w2.cell? ⟨4, 0, none⟩ = some (sentV (es 0)) := (HS1.out.below (hf2.below (B := B) (by omega) (fun k hk hs => by omega)) (Nat.le_refl _)).var 0 (by decide)
      clear hv6e hr2 hf2
      have hgl : 4 < w.heap.size := Nat.lt_of_lt_of_le (HS0.out.glt 0 (by decide)) hB0
      have hnS : ¬ S.length < p + 11 := by rw [HSl.out]; omega
      have HnS := Lib.hid hnS
      clear hnS
      by_cases h0 : v6 = 0
      · subst h0
        have hd : dAt S (p + 5) = 64 := by unfold dAt; rw [if_pos HV6.out.symm]
        have HD := Lib.hid hd
        clear hd
        by_cases h5z : v5 = 0
        · subst h5z
          go_wp2
          (try simp only [Exit.inBlock, Exit.then])
          have HB3 := ((((hK2.out.set_ 0 (.int .i64 0)).set_ 1 (.int .i64 0)).set_ 2 (.int .i64 64)).alloc (.cells #[.int .i64 0, .int .i64 0, .int .i64 64] 316))
          refine bodyPost_ret (res_head _ _ _ _ _ _ _ rfl HB3) rfl ?_
          refine ⟨fun a => absurd a HnS.out, fun _ a => absurd a (by rw [HD.out, ← HV5.out]; omega), fun _ _ => ⟨?_, ?_⟩, ?_⟩
          · unfold freshW; rw [HD.out, ← HV5.out]; rfl
          · exact ⟨(((Hr2.out.1.far (by show g ≠ w.heap.size; omega) _).far (by show g ≠ w.heap.size; omega) _).far (by show g ≠ w.heap.size; omega) _).alloc _, Hr2.out.2⟩
          · exact (((Hf2.out.setCell (.inl (Nat.le_refl _)) _).setCell (.inl (Nat.le_refl _)) _).setCell (.inl (Nat.le_refl _)) _).alloc _
        · have hneg : (64 : Int) - v5 - 64 < 0 := by omega
          have gA : (w2.alloc (.cells #[.int .i64 (v5 : Int), .int .i64 (64 - (v5 : Int) - 64), .int .i64 64] 316)).cell? ⟨4, 0, none⟩ = some (sentV (es 0)) := ((Below.alloc (Below.refl w.heap.size w2) (by omega) _).cell (p := ⟨4, 0, none⟩) hgl).trans g0
          have gB : ((((w2.setCell ⟨w.heap.size, 0, none⟩ (.int .i64 0)).setCell ⟨w.heap.size, 1, none⟩ (.int .i64 0)).setCell ⟨w.heap.size, 2, none⟩ (.int .i64 0)).alloc (.cells #[.int .i64 (v5 : Int), .int .i64 (64 - (v5 : Int) - 64), .int .i64 64] 316)).cell? ⟨4, 0, none⟩ = some (sentV (es 0)) := ((Below.alloc (((Below.refl w.heap.size w2).setCell (Nat.le_refl _) _ |>.setCell (Nat.le_refl _) _) |>.setCell (Nat.le_refl _) _) (by simp; omega) _).cell (p := ⟨4, 0, none⟩) hgl).trans g0
          go_wp2
          go_region
          go_wp2
          (try simp only [Exit.inBlock, Exit.then])
          have HB3 := ((((hK2.out.set_ 0 (.int .i64 0)).set_ 1 (.int .i64 0)).set_ 2 (.int .i64 0)).alloc (.cells #[.int .i64 (v5 : Int), .int .i64 (64 - (v5 : Int) - 64), .int .i64 64] 316)).drew
          refine bodyPost_ret (res_head _ _ _ _ _ _ _ rfl HB3) rfl ?_
          refine ⟨fun a => absurd a HnS.out, fun _ _ => rfl, fun _ a => absurd (show 64 < vAt S p 5 + dAt S (p + 5) by rw [HD.out, ← HV5.out]; omega) a, ?_⟩
          exact ((((Hf2.out.setCell (.inl (Nat.le_refl _)) _).setCell (.inl (Nat.le_refl _)) _).setCell (.inl (Nat.le_refl _)) _).alloc _).drew
      · have hd : dAt S (p + 5) = v6 := by unfold dAt; rw [if_neg (by rw [← HV6.out]; exact h0), HV6.out]
        have HD := Lib.hid hd
        have h0' : ((v6 : Int) == 0) = false := by rw [beq_eq_false_iff_ne]; omega
        clear hd
        by_cases hfar : 64 < v5 + v6
        · have hneg : (64 : Int) - v5 - v6 < 0 := by omega
          have gA : (w2.alloc (.cells #[.int .i64 (v5 : Int), .int .i64 (64 - (v5 : Int) - v6), .int .i64 v6] 316)).cell? ⟨4, 0, none⟩ = some (sentV (es 0)) := ((Below.alloc (Below.refl w.heap.size w2) (by omega) _).cell (p := ⟨4, 0, none⟩) hgl).trans g0
          have gB : ((((w2.setCell ⟨w.heap.size, 0, none⟩ (.int .i64 0)).setCell ⟨w.heap.size, 1, none⟩ (.int .i64 0)).setCell ⟨w.heap.size, 2, none⟩ (.int .i64 0)).alloc (.cells #[.int .i64 (v5 : Int), .int .i64 (64 - (v5 : Int) - v6), .int .i64 v6] 316)).cell? ⟨4, 0, none⟩ = some (sentV (es 0)) := ((Below.alloc (((Below.refl w.heap.size w2).setCell (Nat.le_refl _) _ |>.setCell (Nat.le_refl _) _) |>.setCell (Nat.le_refl _) _) (by simp; omega) _).cell (p := ⟨4, 0, none⟩) hgl).trans g0
          go_wp2
          go_region
          go_wp2
          (try simp only [Exit.inBlock, Exit.then])
          have HB3 := ((((hK2.out.set_ 0 (.int .i64 0)).set_ 1 (.int .i64 0)).set_ 2 (.int .i64 0)).alloc (.cells #[.int .i64 (v5 : Int), .int .i64 (64 - (v5 : Int) - v6), .int .i64 v6] 316)).drew
          refine bodyPost_ret (res_head _ _ _ _ _ _ _ rfl HB3) rfl ?_
          refine ⟨fun a => absurd a HnS.out, fun _ _ => rfl, fun _ a => absurd (show 64 < vAt S p 5 + dAt S (p + 5) by rw [HD.out, ← HV5.out]; omega) a, ?_⟩
          exact ((((Hf2.out.setCell (.inl (Nat.le_refl _)) _).setCell (.inl (Nat.le_refl _)) _).setCell (.inl (Nat.le_refl _)) _).alloc _).drew
        · have hpos : ¬ (64 : Int) - v5 - v6 < 0 := by omega
          go_wp2
          (try simp only [Exit.inBlock, Exit.then])
          have HB3 := ((((hK2.out.set_ 0 (.int .i64 v5)).set_ 1 (.int .i64 (64 - (v5 : Int) - v6))).set_ 2 (.int .i64 v6)).alloc (.cells #[.int .i64 (v5 : Int), .int .i64 (64 - (v5 : Int) - v6), .int .i64 v6] 316))
          refine bodyPost_ret (res_head _ _ _ _ _ _ _ rfl HB3) rfl ?_
          refine ⟨fun a => absurd a HnS.out, fun _ a => absurd a (by rw [HD.out, ← HV5.out]; omega), fun _ _ => ⟨?_, ?_⟩, ?_⟩
          · have e : (64 : Int) - v5 - v6 = ((64 - v5 - v6 : Nat) : Int) := by omega
            unfold freshW
            rw [HD.out, ← HV5.out, e]; rfl
          · exact ⟨(((Hr2.out.1.far (by show g ≠ w.heap.size; omega) _).far (by show g ≠ w.heap.size; omega) _).far (by show g ≠ w.heap.size; omega) _).alloc _, Hr2.out.2⟩
          · exact (((Hf2.out.setCell (.inl (Nat.le_refl _)) _).setCell (.inl (Nat.le_refl _)) _).setCell (.inl (Nat.le_refl _)) _).alloc _
end Go.Proofs.YthgefobcohlegaaGreatDoor
