/- wave.Get by its contract: what it answers and how far it reads; openBits. -/
import Derived.Test.YthgefobcohlegaaGreatDoorMkeX
import Derived.Test.YthgefobcohlegaaGreatDoorMkkX
import Derived.Deep.RegionHeld3
namespace Go.Proofs.YthgefobcohlegaaGreatDoor
open Go.RowKit
set_option linter.unusedVariables false

/-- What wave.Get answers. -/
def wRet (es : Nat → Addr) : WRes → Value
  | .none => .tuple #[.int .i64 0, sentV (es 4)]
  | .bad => .tuple #[.int .i64 0, sentV (es 0)]
  | .ok n _ => .tuple #[.int .i64 n, .nilIface]
theorem take_drop_take {α : Type} (R : List α) (N q m : Nat) (h : q + m ≤ N) : ((R.take N).drop q).take m = (R.drop q).take m := by
  rw [List.drop_take, List.take_take, Nat.min_eq_left (by omega)]
theorem take_get {α : Type} (R : List α) (N i : Nat) (h : i < N) : (R.take N)[i]? = R[i]? := by
  rw [List.getElem?_take, if_pos h]
theorem keep2w {B : Nat} {w w' : World} {a1 a2 : Addr} {v1 v2 : Value} (hb : Below B w w') (h1 : a1.block < B) (h2 : a2.block < B) (h : w.cell? a1 = some v1 ∧ w.cell? a2 = some v2) : w'.cell? a1 = some v1 ∧ w'.cell? a2 = some v2 := by
  rw [hb.cell h1, hb.cell h2]; exact h
theorem numW_mid (k v : Nat) (h : 1 ≤ k ∧ k ≤ 3) : numW k v = (v : Int) - (mostW (wideK k) - 1) := by
  have : k = 1 ∨ k = 2 ∨ k = 3 := by omega
  rcases this with rfl | rfl | rfl <;> simp [numW, mostW, wideK] <;> omega
theorem wide_mid (k : Nat) (h : 1 ≤ k ∧ k ≤ 3) : (wideK k = 7 ∨ wideK k = 9 ∨ wideK k = 12) ∧ 64 ≤ mostW (wideK k) ∧ mostW (wideK k) ≤ 2048 ∧ headL k = k + 1 := by
  have : k = 1 ∨ k = 2 ∨ k = 3 := by omega
  rcases this with rfl | rfl | rfl <;> simp [mostW, wideK, headL]
theorem bodyW_reader {xs : List Nat} {p k N : Nat} (h : p + headL k + wN k ≤ N) : ((rbits xs).drop (p + headL k)).take (wN k) = bodyW ((rbits xs).take N) p k := by
  unfold bodyW; rw [take_drop_take _ _ _ _ h]
theorem form_at {wr w1 : World} (hw : w1 = wr.alloc (.cells formCells 311)) (k : Nat) (hk : k ≤ 4) : w1.cell? ⟨wr.heap.size, k * 2, none⟩ = some (.int .i64 (k : Int)) ∧ w1.cell? ⟨wr.heap.size, k * 2 + 1, none⟩ = some (.int .i64 (wideK k)) := by
  subst hw
  rw [(Blk.new wr _ _).cell, (Blk.new wr _ _).cell]
  match k, hk with
  | 0, _ => exact ⟨rfl, rfl⟩
  | 1, _ => exact ⟨rfl, rfl⟩
  | 2, _ => exact ⟨rfl, rfl⟩
  | 3, _ => exact ⟨rfl, rfl⟩
  | 4, _ => exact ⟨rfl, rfl⟩

set_option maxRecDepth 100000 in
set_option maxHeartbeats 8000000 in
theorem wget_any {es : Nat → Addr} {B : Nat} (g p N : Nat) (xs : List Nat) (w : World) (hS : SV es B w) (hB0 : B ≤ w.heap.size) (hBg : B ≤ g) (h : ReaderAt w g xs p N) :
    Calls Tryz.prog 214 #[.pointer (some ⟨g, 0, none⟩)] w fun e w' => e = .returned (wRet es (getW ((rbits xs).take N) p)) ∧ Fr (fun k => k = g) w w' ∧ (∃ p', p ≤ p' ∧ ReaderAt w' g xs p' N) ∧ ∀ n m, getW ((rbits xs).take N) p = .ok n m → ReaderAt w' g xs (p + m) N := by
  have hN := h.2.2.1
  have hNx := h.2.2.2.1
  have hpN := h.2.1
  have hgl := h.1.lt
  obtain ⟨S, hSS⟩ : ∃ S, S = (rbits xs).take N := ⟨_, rfl⟩
  have hSl : S.length = N := by rw [hSS, List.length_take, rbits_len]; omega
  have hSg : ∀ i, i < N → S[i]? = (rbits xs)[i]? := fun i hi => by rw [hSS]; exact take_get _ _ _ hi
  rw [← hSS]
  have HS := Lib.hid hS; have H := Lib.hid h; have HSS := Lib.hid hSS; have HSl := Lib.hid hSl; have HSg := Lib.hid hSg
  clear hS h hSS hSl hSg
  go_enter Tryz.func214, Tryz.ntmps214
  go_wp2
  go_loopw [4] (fun o wr => ∃ j : Nat, j ≤ 4 ∧ o = .int .i64 j ∧ (∀ i, i < j → S[p + i]? = some true) ∧ ReaderAt wr g xs (p + j) N ∧ Fr (fun k => k = g) w wr) (fun o _ => 4 - (intOf o).toNat)
  case atStart => exact ⟨0, by omega, rfl, fun i hi => by omega, H.out, Fr.refl _ _⟩
  case round =>
    obtain ⟨j, hj, rfl, h1, hrd, hfr⟩ := hrel
    have hsz : w.heap.size ≤ wr.heap.size := hfr.size
    have hgr : g < wr.heap.size := hrd.1.lt
    have H1 := Lib.hid h1; have Hrd := Lib.hid hrd; have Hfr := Lib.hid hfr
    have Hsr := Lib.hid (HS.out.below (hfr.below hB0 (fun k hk hs => by omega)) (Nat.le_refl _))
    have hBr : B ≤ wr.heap.size := Nat.le_trans hB0 hsz
    clear h1 hrd hfr
    by_cases hj4 : j < 4
    · by_cases hout : N < p + j + 1
      · -- the bits end
        have hnone : getW S p = .none := getW_none (ones_out S 4 p j hj4 H1.out (List.getElem?_eq_none (by rw [HSl.out]; omega)))
        have Hno := Lib.hid hnone
        go_wp2_with fail
        refine (get_none g (p + j) N xs 1 _ Hsr.out hBr Hrd.out (by omega) hout).mono ?_
        rintro e w1 ⟨rfl, hb⟩
        have Hf1 := Lib.hid (Fr.call Hfr.out hb hsz)
        have Hr1 := Lib.hid (Hrd.out.below hb (Nat.le_refl _))
        clear hb hnone
        go_wp2
        go_ret2
        exact ⟨by rw [Hno.out]; rfl, Hf1.out, ⟨_, by omega, Hr1.out⟩, fun n m h => by rw [Hno.out] at h; cases h⟩
      · have hpl : p + j < N := by omega
        obtain ⟨b, hbit⟩ : ∃ b, S[p + j]? = some b := ⟨_, List.getElem?_eq_getElem (by rw [HSl.out]; exact hpl)⟩
        have hval : valN (((rbits xs).drop (p + j)).take 1) = b.toNat := by
          have hr : (rbits xs)[p + j]? = some b := by rw [← HSg.out _ hpl]; exact hbit
          have e0 : ((rbits xs).drop (p + j))[0]? = some b := by rw [List.getElem?_drop, Nat.add_zero]; exact hr
          have := take_snoc e0
          rw [this, valN_snoc, List.take_zero]; simp [valN]
        have Hval := Lib.hid hval; have Hbit := Lib.hid hbit
        clear hval hbit
        go_wp2_with fail
        refine (get_ok g (p + j) N xs 1 _ Hrd.out (by omega) (by omega)).mono ?_
        rintro e w1 ⟨rfl, hr1, hf1⟩
        rw [Hval.out]
        have Hr1 := Lib.hid hr1
        have Hf1 := Lib.hid (Fr.trans Hfr.out hf1 (fun i _ h => h))
        have hz1 : wr.heap.size ≤ w1.heap.size := hf1.size
        have hg1 : g < w1.heap.size := by omega
        have Hs1 := Lib.hid (Hsr.out.below (hf1.below hBr (fun k hk hs => by omega)) (Nat.le_refl _))
        clear hr1 hf1
        cases b with
        | true =>
          go_wp2
          go_roundw
          case rel => exact ⟨j + 1, by omega, by go_num, fun i hi => by
            rcases Nat.lt_or_ge i j with h | h
            · exact H1.out i h
            · obtain rfl : i = j := by omega
              exact Hbit.out, Hr1.out, Hf1.out⟩
          case measure => simp [intOf]; omega
        | false =>
          have hones := ones_stop S 4 p j hj4 H1.out Hbit.out
          have hgw := getW_of hones
          rw [HSl.out] at hgw
          have Hgw := Lib.hid hgw
          clear hones hgw
          by_cases hj0 : j = 0
          · subst hj0
            have hN1 : ¬ N < p + headL 0 + wN 0 := by simp [headL, wN]; omega
            have hbw : ∀ h : p + headL 0 + wN 0 ≤ N, ((rbits xs).drop (p + 0 + 1)).take (wN 0) = bodyW S p 0 := fun h => by rw [HSS.out, ← bodyW_reader h]; rfl
            have Hbw := Lib.hid hbw; clear hbw
            go_wp2_with fail
            refine (forms_any _).mono ?_
            rintro e w2 ⟨rfl, hw2⟩
            obtain ⟨c0, c1⟩ := form_at hw2 0 (by omega)
            have hb2 : Below w1.heap.size w1 w2 := by rw [hw2]; go_grown
            have hz2 : w1.heap.size < w2.heap.size := by rw [hw2]; simp
            have Hr2 := Lib.hid (Hr1.out.below hb2 (Nat.le_refl _))
            have Hf2 := Lib.hid (Fr.call Hf1.out hb2 (by omega))
            have Hs2 := Lib.hid (Hs1.out.below hb2 (by omega))
            clear hw2 hb2
            have hwk : wideK 0 = 0 := rfl
            rw [hwk] at c1
            simp only [Nat.zero_mul, Nat.zero_add] at c0 c1
            have hb3 : Below w2.heap.size w2 (w2.alloc (.cells #[.int .i64 0, .int .i64 0] 311)) := by go_grown
            have hd0 : (w2.alloc (.cells #[.int .i64 0, .int .i64 0] 311)).cell? ⟨w2.heap.size, 0, none⟩ = some (.int .i64 0) := by simp
            have hd1 : (w2.alloc (.cells #[.int .i64 0, .int .i64 0] 311)).cell? ⟨w2.heap.size, 1, none⟩ = some (.int .i64 0) := by simp
            have Hr3 := Lib.hid (Hr2.out.below hb3 (Nat.le_refl _))
            have Hf3 := Lib.hid (Fr.call Hf2.out hb3 (by omega))
            have Hs3 := Lib.hid (Hs2.out.below hb3 (by omega))
            have Hd3 := Lib.hid (And.intro hd0 hd1)
            clear hb3 hd0 hd1
            go_wp2_with fail
            have hN2 : p + headL 0 + wN 0 ≤ N := by omega
            have hgw := Hgw.out
            rw [if_neg hN1] at hgw
            have hvl := valN_lt (bodyW S p 0)
            rw [bodyW_len (S := S) (p := p) (k := 0) (by rw [HSl.out]; exact hN1)] at hvl
            have gk := get_ok g (p + 0 + 1) N xs (wN 0) (w2.alloc (.cells #[.int .i64 0, .int .i64 0] 311)) Hr3.out (wN_le _) (by exact hN2)
            refine gk.mono ?_
            clear gk
            rintro e w4 ⟨rfl, hr4, hf4⟩
            rw [Hbw.out hN2]
            have hz4 := hf4.size
            simp only [World.size_alloc] at hz4
            have hd4 : w4.cell? ⟨w2.heap.size, 0, none⟩ = some (.int .i64 0) ∧ w4.cell? ⟨w2.heap.size, 1, none⟩ = some (.int .i64 0) := by
              have hb4 : ∀ i, w4.cell? ⟨w2.heap.size, i, none⟩ = (w2.alloc (.cells #[.int .i64 0, .int .i64 0] 311)).cell? ⟨w2.heap.size, i, none⟩ := fun i => World.cell?_of_block (hf4.block w2.heap.size (by simp) (by omega))
              rw [hb4, hb4]; exact Hd3.out
            have Hr4 := Lib.hid hr4
            have Hf4 := Lib.hid (Fr.trans Hf3.out hf4 (fun i _ h => h))
            have Hs4 := Lib.hid (Hs3.out.below (hf4.below (B := B) (by simp; omega) (fun k hk hs => by omega)) (Nat.le_refl _))
            obtain ⟨d0, d1⟩ := hd4
            clear hr4 hf4 c0 c1
            generalize hvv : valN (bodyW S p 0) = v at hgw hvl ⊢
            have Hgw2 := Lib.hid hgw
            clear hgw hvv
            have hv0 : v = 0 := by simp [wN] at hvl; omega
            subst hv0
            have hgo : getW S p = .ok 0 (headL 0 + wN 0) := by rw [Hgw2.out]; rfl
            have Hgo := Lib.hid hgo
            clear hgo
            have HD := Lib.hid (show w4.drew.cell? ⟨w2.heap.size, 0, none⟩ = some (.int .i64 0) ∧ w4.drew.cell? ⟨w2.heap.size, 1, none⟩ = some (.int .i64 0) from ⟨d0, d1⟩)
            have hof0 : ofK 0 = 0 := rfl
            have hwk0 : wideK 0 = 0 := rfl
            go_wp2_with fail
            go_region_held3 (fun w' => w'.cell? ⟨w2.heap.size, 0, none⟩ = some (.int .i64 0) ∧ w'.cell? ⟨w2.heap.size, 1, none⟩ = some (.int .i64 0))
              (first | with_reducible exact HD.out | (with_reducible refine keep2w hb6.out ?_ ?_ HD.out <;> first | (simp; done) | (simp; omega)))
              (first | (go_at_call 208; refine (of_any _ _).mono ?_; rintro e w6 ⟨rfl, hb6⟩; rw [hof0, hwk0]; have hb6 := Lib.hid hb6))
            have Hf6 := Lib.hid (Fr.call Hf4.out (Below.trans (Below.refl w4.heap.size w4).drew hb6.out) (by omega))
            have Hr6 := Lib.hid (Hr4.out.below (Below.trans (Below.refl w4.heap.size w4).drew hb6.out) (Nat.le_refl _))
            go_wp2
            go_ret2
            refine ⟨by rw [Hgo.out]; rfl, Hf6.out, ⟨_, by omega, Hr6.out⟩, fun n m h => ?_⟩
            rw [Hgo.out] at h
            injection h with h1 h2
            subst h2
            exact Hr6.out
          · have hmid := wide_mid j ⟨by omega, by omega⟩
            obtain ⟨hwd, hM0, hM1, hhl⟩ := hmid
            have hnm := numW_mid j (valN (bodyW S p j)) ⟨by omega, by omega⟩
            have hbw : ∀ h : p + headL j + wN j ≤ N, ((rbits xs).drop (p + j + 1)).take (wN j) = bodyW S p j := fun h => by rw [HSS.out, ← bodyW_reader h]; rw [hhl, Nat.add_assoc]
            have Hbw := Lib.hid hbw; clear hbw
            go_wp2_with fail
            refine (forms_any _).mono ?_
            rintro e w2 ⟨rfl, hw2⟩
            obtain ⟨c0, c1⟩ := form_at hw2 j (by omega)
            have hb2 : Below w1.heap.size w1 w2 := by rw [hw2]; go_grown
            have hz2 : w1.heap.size < w2.heap.size := by rw [hw2]; simp
            have Hr2 := Lib.hid (Hr1.out.below hb2 (Nat.le_refl _))
            have Hf2 := Lib.hid (Fr.call Hf1.out hb2 (by omega))
            have Hs2 := Lib.hid (Hs1.out.below hb2 (by omega))
            clear hw2 hb2
            have hwN := wN_wide j
            have hwl := wN_le j
            generalize hwd2 : wideK j = wd at c1 hwd hM0 hM1 hnm hwN
            have hwd0 : 0 < wd := by omega
            have hwd1 : wd < 64 := by omega
            have hb3 : Below w2.heap.size w2 (w2.alloc (.cells #[.int .i64 (j : Int), .int .i64 wd] 311)) := by go_grown
            have hd0 : (w2.alloc (.cells #[.int .i64 (j : Int), .int .i64 wd] 311)).cell? ⟨w2.heap.size, 0, none⟩ = some (.int .i64 (j : Int)) := by simp
            have hd1 : (w2.alloc (.cells #[.int .i64 (j : Int), .int .i64 wd] 311)).cell? ⟨w2.heap.size, 1, none⟩ = some (.int .i64 wd) := by simp
            have Hr3 := Lib.hid (Hr2.out.below hb3 (Nat.le_refl _))
            have Hf3 := Lib.hid (Fr.call Hf2.out hb3 (by omega))
            have Hs3 := Lib.hid (Hs2.out.below hb3 (by omega))
            have Hd3 := Lib.hid (And.intro hd0 hd1)
            clear hb3 hd0 hd1
            go_wp2_with fail
            by_cases hN1 : N < p + headL j + wN j
            · have hgn : getW S p = .none := by rw [Hgw.out, if_pos hN1]
              have Hgn := Lib.hid hgn
              clear hgn
              have gk := get_none g (p + j + 1) N xs (wN j) (w2.alloc (.cells #[.int .i64 (j : Int), .int .i64 wd] 311)) Hs3.out (by simp; omega) Hr3.out (wN_le _) (by rw [hhl] at hN1; omega)
              rw [hwN] at gk
              refine gk.mono ?_
              clear gk
              rintro e w4 ⟨rfl, hb⟩
              have Hf4 := Lib.hid (Fr.call Hf3.out hb (by simp; omega))
              have Hr4 := Lib.hid (Hr3.out.below hb (Nat.le_refl _))
              clear hb c0 c1
              go_wp2
              go_ret2
              exact ⟨by rw [Hgn.out]; rfl, Hf4.out, ⟨_, by omega, Hr4.out⟩, fun n m h => by rw [Hgn.out] at h; cases h⟩
            have hN2 : p + headL j + wN j ≤ N := by omega
            have hgw := Hgw.out
            rw [if_neg hN1] at hgw
            have hvl := valN_lt (bodyW S p j)
            rw [bodyW_len (S := S) (p := p) (k := j) (by rw [HSl.out]; exact hN1)] at hvl
            have gk := get_ok g (p + j + 1) N xs (wN j) (w2.alloc (.cells #[.int .i64 (j : Int), .int .i64 wd] 311)) Hr3.out (wN_le _) (by rw [hhl] at hN2; omega)
            rw [hwN] at gk
            refine gk.mono ?_
            clear gk
            rintro e w4 ⟨rfl, hr4, hf4⟩
            rw [Hbw.out hN2]
            have hz4 := hf4.size
            simp only [World.size_alloc] at hz4
            have hd4 : w4.cell? ⟨w2.heap.size, 0, none⟩ = some (.int .i64 (j : Int)) ∧ w4.cell? ⟨w2.heap.size, 1, none⟩ = some (.int .i64 wd) := by
              have hb4 : ∀ i, w4.cell? ⟨w2.heap.size, i, none⟩ = (w2.alloc (.cells #[.int .i64 (j : Int), .int .i64 wd] 311)).cell? ⟨w2.heap.size, i, none⟩ := fun i => World.cell?_of_block (hf4.block w2.heap.size (by simp) (by omega))
              rw [hb4, hb4]; exact Hd3.out
            have Hr4 := Lib.hid hr4
            have Hf4 := Lib.hid (Fr.trans Hf3.out hf4 (fun i _ h => h))
            have Hs4 := Lib.hid (Hs3.out.below (hf4.below (B := B) (by simp; omega) (fun k hk hs => by omega)) (Nat.le_refl _))
            obtain ⟨d0, d1⟩ := hd4
            clear hr4 hf4 c0 c1
            generalize hvv : valN (bodyW S p j) = v at hgw hvl ⊢ hnm
            have Hgw2 := Lib.hid hgw
            clear hgw hvv
            have hvl4 : v < 4096 := by
              have h12 : wN j ≤ 12 := by have := hwN; omega
              exact Nat.lt_of_lt_of_le hvl (by calc 2 ^ wN j ≤ 2 ^ 12 := Nat.pow_le_pow_right (by omega) h12
                                                    _ = 4096 := rfl)
            go_wp2_with fail
            refine (most_any (j : Int) wd hwd w4).mono ?_
            rintro e w5 ⟨rfl, hb5⟩
            have d0 := (hb5.cell (p := ⟨w2.heap.size, 0, none⟩) (by show w2.heap.size < _; omega)).trans d0
            have d1 := (hb5.cell (p := ⟨w2.heap.size, 1, none⟩) (by show w2.heap.size < _; omega)).trans d1
            have hz5 := hb5.size
            have Hr5 := Lib.hid (Hr4.out.below hb5 (Nat.le_refl _))
            have Hf5 := Lib.hid (Fr.call Hf4.out hb5 (by omega))
            have Hs5 := Lib.hid (Hs4.out.below hb5 (by omega))
            clear hb5
            generalize hMM : mostW wd = M at hM0 hM1 hnm ⊢
            have Hnm := Lib.hid hnm; clear hnm
            have HD := Lib.hid (show w5.drew.cell? ⟨w2.heap.size, 0, none⟩ = some (.int .i64 (j : Int)) ∧ w5.drew.cell? ⟨w2.heap.size, 1, none⟩ = some (.int .i64 wd) from ⟨d0, d1⟩)
            by_cases hof : ofK ((v : Int) - (M - 1)) = j
            · have hgo : getW S p = .ok ((v : Int) - (M - 1)) (headL j + wN j) := by rw [Hgw2.out, Hnm.out]; exact if_pos hof
              have Hgo := Lib.hid hgo
              clear hgo
              go_wp2_with fail
              go_region_held3 (fun w' => w'.cell? ⟨w2.heap.size, 0, none⟩ = some (.int .i64 (j : Int)) ∧ w'.cell? ⟨w2.heap.size, 1, none⟩ = some (.int .i64 wd))
                (first | with_reducible exact HD.out | (with_reducible refine keep2w hb6.out ?_ ?_ HD.out <;> first | (simp; done) | (simp; omega)))
                (first | (go_at_call 208; refine (of_any _ _).mono ?_; rintro e w6 ⟨rfl, hb6⟩; have hb6 := Lib.hid hb6))
              have Hf6 := Lib.hid (Fr.call Hf5.out (Below.trans (Below.refl w5.heap.size w5).drew hb6.out) (by omega))
              have Hr6 := Lib.hid (Hr5.out.below (Below.trans (Below.refl w5.heap.size w5).drew hb6.out) (Nat.le_refl _))
              go_wp2
              go_ret2
              refine ⟨by rw [Hgo.out]; rfl, Hf6.out, ⟨_, by omega, Hr6.out⟩, fun n m h => ?_⟩
              rw [Hgo.out] at h
              injection h with h1 h2
              subst h2
              rw [← Nat.add_assoc]
              exact by have := Hr6.out; rw [hhl]; exact this
            · have hgo : getW S p = .bad := by rw [Hgw2.out, Hnm.out]; exact if_neg hof
              have Hgo := Lib.hid hgo
              clear hgo
              have hofi : ((ofK ((v : Int) - (M - 1)) : Nat) : Int) ≠ (j : Int) := by omega
              go_wp2_with fail
              go_region_held3 (fun w' => w'.cell? ⟨w2.heap.size, 0, none⟩ = some (.int .i64 (j : Int)) ∧ w'.cell? ⟨w2.heap.size, 1, none⟩ = some (.int .i64 wd))
                (first | with_reducible exact HD.out | (with_reducible refine keep2w hb6.out ?_ ?_ HD.out <;> first | (simp; done) | (simp; omega)))
                (first | (go_at_call 208; refine (of_any _ _).mono ?_; rintro e w6 ⟨rfl, hb6⟩; have hb6 := Lib.hid hb6))
              have Hf6 := Lib.hid (Fr.call Hf5.out (Below.trans (Below.refl w5.heap.size w5).drew hb6.out) (by omega))
              have Hr6 := Lib.hid (Hr5.out.below (Below.trans (Below.refl w5.heap.size w5).drew hb6.out) (Nat.le_refl _))
              have g0 : w6.cell? ⟨4, 0, none⟩ = some (sentV (es 0)) := (Hs5.out.below (Below.trans (Below.refl w5.heap.size w5).drew hb6.out) (by omega)).var 0 (by decide)
              go_wp2
              go_quiet (fail)
              go_wp2
              go_ret2
              exact ⟨by rw [Hgo.out]; rfl, Hf6.out.drewN _, ⟨_, by omega, ⟨Hr6.out.1.drewN _, Hr6.out.2⟩⟩, fun n m h => by rw [Hgo.out] at h; cases h⟩
    · obtain rfl : j = 4 := by omega
      have hones := ones_all S 4 p H1.out
      have hgw := getW_of hones
      rw [HSl.out] at hgw
      have Hgw := Lib.hid hgw
      clear hones hgw
      have hbw : ∀ h : p + headL 4 + wN 4 ≤ N, ((rbits xs).drop (p + 4)).take (wN 4) = bodyW S p 4 := fun h => by rw [HSS.out, ← bodyW_reader h]; rfl
      have Hbw := Lib.hid hbw; clear hbw
      go_wp2_with fail
      refine (forms_any _).mono ?_
      rintro e w2 ⟨rfl, hw2⟩
      obtain ⟨c0, c1⟩ := form_at hw2 4 (by omega)
      have hb2 : Below wr.heap.size wr w2 := by rw [hw2]; go_grown
      have hz2 : wr.heap.size < w2.heap.size := by rw [hw2]; simp
      have Hr2 := Lib.hid (Hrd.out.below hb2 (Nat.le_refl _))
      have Hf2 := Lib.hid (Fr.call Hfr.out hb2 (by omega))
      have Hs2 := Lib.hid (Hsr.out.below hb2 (by omega))
      clear hw2 hb2
      have hwk : wideK 4 = 64 := rfl
      rw [hwk] at c1
      simp only [Nat.reduceMul, Nat.reduceAdd] at c0 c1
      have hb3 : Below w2.heap.size w2 (w2.alloc (.cells #[.int .i64 4, .int .i64 64] 311)) := by go_grown
      have hd0 : (w2.alloc (.cells #[.int .i64 4, .int .i64 64] 311)).cell? ⟨w2.heap.size, 0, none⟩ = some (.int .i64 4) := by simp
      have hd1 : (w2.alloc (.cells #[.int .i64 4, .int .i64 64] 311)).cell? ⟨w2.heap.size, 1, none⟩ = some (.int .i64 64) := by simp
      have Hr3 := Lib.hid (Hr2.out.below hb3 (Nat.le_refl _))
      have Hf3 := Lib.hid (Fr.call Hf2.out hb3 (by omega))
      have Hs3 := Lib.hid (Hs2.out.below hb3 (by omega))
      have Hd3 := Lib.hid (And.intro hd0 hd1)
      clear hb3 hd0 hd1
      go_wp2_with fail
      by_cases hN1 : N < p + headL 4 + wN 4
      · have hgn : getW S p = .none := by rw [Hgw.out, if_pos hN1]
        have Hgn := Lib.hid hgn
        clear hgn
        have gk := get_none g (p + 4) N xs (wN 4) (w2.alloc (.cells #[.int .i64 4, .int .i64 64] 311)) Hs3.out (by simp; omega) Hr3.out (wN_le _) (by exact hN1)
        refine gk.mono ?_
        clear gk
        rintro e w4 ⟨rfl, hb⟩
        have Hf4 := Lib.hid (Fr.call Hf3.out hb (by simp; omega))
        have Hr4 := Lib.hid (Hr3.out.below hb (Nat.le_refl _))
        clear hb c0 c1
        go_wp2
        go_ret2
        exact ⟨by rw [Hgn.out]; rfl, Hf4.out, ⟨_, by omega, Hr4.out⟩, fun n m h => by rw [Hgn.out] at h; cases h⟩
      have hN2 : p + headL 4 + wN 4 ≤ N := by omega
      have hgw := Hgw.out
      rw [if_neg hN1] at hgw
      have hvl := valN_lt (bodyW S p 4)
      rw [bodyW_len (S := S) (p := p) (k := 4) (by rw [HSl.out]; exact hN1)] at hvl
      have gk := get_ok g (p + 4) N xs (wN 4) (w2.alloc (.cells #[.int .i64 4, .int .i64 64] 311)) Hr3.out (wN_le _) (by exact hN2)
      refine gk.mono ?_
      clear gk
      rintro e w4 ⟨rfl, hr4, hf4⟩
      rw [Hbw.out hN2]
      have hz4 := hf4.size
      simp only [World.size_alloc] at hz4
      have hd4 : w4.cell? ⟨w2.heap.size, 0, none⟩ = some (.int .i64 4) ∧ w4.cell? ⟨w2.heap.size, 1, none⟩ = some (.int .i64 64) := by
        have hb4 : ∀ i, w4.cell? ⟨w2.heap.size, i, none⟩ = (w2.alloc (.cells #[.int .i64 4, .int .i64 64] 311)).cell? ⟨w2.heap.size, i, none⟩ := fun i => World.cell?_of_block (hf4.block w2.heap.size (by simp) (by omega))
        rw [hb4, hb4]; exact Hd3.out
      have Hr4 := Lib.hid hr4
      have Hf4 := Lib.hid (Fr.trans Hf3.out hf4 (fun i _ h => h))
      have Hs4 := Lib.hid (Hs3.out.below (hf4.below (B := B) (by simp; omega) (fun k hk hs => by omega)) (Nat.le_refl _))
      obtain ⟨d0, d1⟩ := hd4
      clear hr4 hf4 c0 c1
      generalize hvv : valN (bodyW S p 4) = v at hgw hvl ⊢
      have Hgw2 := Lib.hid hgw
      clear hgw hvv
      have hvl4 : v < 18446744073709551616 := by simpa [wN] using hvl
      have hwr4 : IntKind.i64.wrap (v : Int) = numW 4 v := by rw [IntKind.wrap_i64]; unfold numW; split <;> omega
      generalize hnn : numW 4 v = nn at hwr4
      have Hnn := Lib.hid hnn; clear hnn
      have HD := Lib.hid (show w4.drew.cell? ⟨w2.heap.size, 0, none⟩ = some (.int .i64 4) ∧ w4.drew.cell? ⟨w2.heap.size, 1, none⟩ = some (.int .i64 64) from ⟨d0, d1⟩)
      by_cases hof : ofK (nn) = 4
      · have hgo : getW S p = .ok (nn) (headL 4 + wN 4) := by rw [Hgw2.out, Hnn.out]; exact if_pos hof
        have Hgo := Lib.hid hgo
        clear hgo
        go_wp2_with fail
        go_region_held3 (fun w' => w'.cell? ⟨w2.heap.size, 0, none⟩ = some (.int .i64 4) ∧ w'.cell? ⟨w2.heap.size, 1, none⟩ = some (.int .i64 64))
          (first | with_reducible exact HD.out | (with_reducible refine keep2w hb6.out ?_ ?_ HD.out <;> first | (simp; done) | (simp; omega)))
          (first | (go_at_call 208; refine (of_any _ _).mono ?_; rintro e w6 ⟨rfl, hb6⟩; have hb6 := Lib.hid hb6))
        have Hf6 := Lib.hid (Fr.call Hf4.out (Below.trans (Below.refl w4.heap.size w4).drew hb6.out) (by omega))
        have Hr6 := Lib.hid (Hr4.out.below (Below.trans (Below.refl w4.heap.size w4).drew hb6.out) (Nat.le_refl _))
        go_wp2
        go_ret2
        refine ⟨by rw [Hgo.out]; rfl, Hf6.out, ⟨_, by omega, Hr6.out⟩, fun n m h => ?_⟩
        rw [Hgo.out] at h
        injection h with h1 h2
        subst h2
        rw [← Nat.add_assoc]
        exact Hr6.out
      · have hgo : getW S p = .bad := by rw [Hgw2.out, Hnn.out]; exact if_neg hof
        have Hgo := Lib.hid hgo
        clear hgo
        have hofi : ((ofK (nn) : Nat) : Int) ≠ 4 := by omega
        go_wp2_with fail
        go_region_held3 (fun w' => w'.cell? ⟨w2.heap.size, 0, none⟩ = some (.int .i64 4) ∧ w'.cell? ⟨w2.heap.size, 1, none⟩ = some (.int .i64 64))
          (first | with_reducible exact HD.out | (with_reducible refine keep2w hb6.out ?_ ?_ HD.out <;> first | (simp; done) | (simp; omega)))
          (first | (go_at_call 208; refine (of_any _ _).mono ?_; rintro e w6 ⟨rfl, hb6⟩; have hb6 := Lib.hid hb6))
        have Hf6 := Lib.hid (Fr.call Hf4.out (Below.trans (Below.refl w4.heap.size w4).drew hb6.out) (by omega))
        have Hr6 := Lib.hid (Hr4.out.below (Below.trans (Below.refl w4.heap.size w4).drew hb6.out) (Nat.le_refl _))
        have g0 : w6.cell? ⟨4, 0, none⟩ = some (sentV (es 0)) := (Hs4.out.below (Below.trans (Below.refl w4.heap.size w4).drew hb6.out) (by omega)).var 0 (by decide)
        go_wp2
        go_quiet (fail)
        go_wp2
        go_ret2
        exact ⟨by rw [Hgo.out]; rfl, Hf6.out.drewN _, ⟨_, by omega, ⟨Hr6.out.1.drewN _, Hr6.out.2⟩⟩, fun n m h => by rw [Hgo.out] at h; cases h⟩

end Go.Proofs.YthgefobcohlegaaGreatDoor
