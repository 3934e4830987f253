/- bits.Put for any number of bits from 0 to 64, and wave.Put, by contracts, where there is room. -/
import Derived.Test.YtfkklcmepcocoaaGreatDoorRow
import Derived.Test.YtfkklcmepcocoaaGreatDoorWave1
namespace Go.Proofs.YtfkklcmepcocoaaGreatDoor
open Go.RowKit
set_option linter.unusedVariables false

/-- The row at g has turned into the row of l; nothing else that was there has turned. -/
def RowStep (w w' : World) (g : Nat) (bv : Value) (l : List Bool) : Prop := ∃ bv', RowAt w' g bv' l ∧ Fr (RowS g bv) w w' ∧ Mv w bv bv'
theorem RowAt.S_lt {w : World} {g : Nat} {bv : Value} {l : List Bool} (h : RowAt w g bv l) : ∀ k, RowS g bv k → k < w.heap.size := by
  intro k hk
  rcases hk with rfl | hk
  · exact h.lt
  · exact (own_lt h.2 k hk).2
theorem RowAt.S_ge {w : World} {g : Nat} {bv : Value} {l : List Bool} (h : RowAt w g bv l) : ∀ k, RowS g bv k → g ≤ k := by
  intro k hk
  rcases hk with rfl | hk
  · exact Nat.le_refl _
  · exact (own_lt h.2 k hk).1
theorem RowStep.size {w w' : World} {g : Nat} {bv : Value} {l : List Bool} (h : RowStep w w' g bv l) : w.heap.size ≤ w'.heap.size := by
  obtain ⟨_, _, h, _⟩ := h; exact h.size
/-- Behind a callee that keeps all, then a step. -/
theorem RowStep.behind {w w1 w' : World} {B g : Nat} {bv : Value} {l l' : List Bool} (h0 : RowAt w g bv l') (hb : Below B w w1) (hB : w.heap.size ≤ B) (h : RowStep w1 w' g bv l) : RowStep w w' g bv l := by
  obtain ⟨bv', h1, h2, h3⟩ := h
  refine ⟨bv', h1, Fr.trans (S := RowS g bv) ((Fr.refl _ w).call hb hB) h2 (fun i _ hi => hi), ?_⟩
  rcases h3 with h3 | ⟨k, q1, q2⟩
  · exact .inl h3
  · exact .inr ⟨k, q1, Nat.le_trans hb.size q2⟩
theorem RowStep.before {w w1 w' : World} {B g : Nat} {bv : Value} {l : List Bool} (h : RowStep w w1 g bv l) (hb : Below B w1 w') (hB : w1.heap.size ≤ B) : RowStep w w' g bv l := by
  obtain ⟨bv', h1, h2, h3⟩ := h
  exact ⟨bv', h1.below hb hB, h2.call hb (Nat.le_trans h2.size hB), h3⟩
theorem RowStep.trans {w w1 w' : World} {g : Nat} {bv bv1 : Value} {l l' : List Bool} (h1 : RowAt w1 g bv1 l) (h2 : Fr (RowS g bv) w w1) (h3 : Mv w bv bv1) (h : RowStep w1 w' g bv1 l') : RowStep w w' g bv l' := by
  obtain ⟨bv', q1, q2, q3⟩ := h
  exact ⟨bv', q1, h2.trans q2 (RowS.of_mv h3), h3.trans q3 h2.size⟩
theorem RowStep.below {w w' : World} {g B : Nat} {bv : Value} {l l' : List Bool} (h0 : RowAt w g bv l') (h : RowStep w w' g bv l) (hB : B ≤ g) : Below B w w' := by
  obtain ⟨_, _, h2, _⟩ := h
  exact h2.below (by have := h0.lt; omega) (fun k hk hs => by have := h0.S_ge k hs; omega)
theorem RowStep.blk {w w' : World} {g q : Nat} {bv : Value} {l l' : List Bool} {t : TypeId} {cs : Array Value} (h0 : RowAt w g bv l') (h : RowStep w w' g bv l) (hq : Blk w q t cs) (ht : t ≠ 242) (ht' : t ≠ 5) : Blk w' q t cs := by
  obtain ⟨_, _, h2, _⟩ := h
  refine h2.blk hq ?_
  rintro (rfl | hs)
  · exact hq.ne_ h0.1 ht rfl
  · exact own_ne_blk h0.2 hq (fun e => ht' e.symm) hs.symm
theorem RowStep.own {w w' : World} {g : Nat} {bv : Value} {l l' : List Bool} {base : Nat} {e : TypeId} {size n : Nat} {v : Value} {xs : List Value} (h0 : RowAt w g bv l') (h : RowStep w w' g bv l) (ho : w.ownsRow base e size v n xs) (ht : e ≠ 242) (ht' : e ≠ 5) : w'.ownsRow base e size v n xs := by
  obtain ⟨_, _, h2, _⟩ := h
  refine h2.own ho (fun k hk => ?_)
  rintro (rfl | hs)
  · exact own_ne_blk ho h0.1 ht hk.symm
  · rcases own_ne_own ho h0.2 ht' with h | h
    · rw [h] at hk; cases hk
    · rw [hk, hs] at h; exact h rfl

theorem put_any (g : Nat) (bv : Value) (l : List Bool) (v n : Int) (w : World) (h : RowAt w g bv l) (hn0 : 0 ≤ n) (hn : n ≤ 64) (hm : (l.length : Int) + n ≤ 1048576) (hv0 : 0 ≤ v) (hv : v < 18446744073709551616) :
    Calls Tryz.prog 125 #[.pointer (some ⟨g, 0, none⟩), .int .u64 v, .int .i64 n] w fun e w' => e = .returned .nilIface ∧ RowStep w w' g bv (l ++ bitsN v.toNat n.toNat) := by
  obtain ⟨v, rfl⟩ := Int.eq_ofNat_of_zero_le hv0
  obtain ⟨n, rfl⟩ := Int.eq_ofNat_of_zero_le hn0
  exact put_nat g bv l v n w h (by omega) (by omega) (by omega)

/-- What a number's own bits say: the number, moved. -/
def waveV (n : Int) : Int := if ofK n = 0 ∨ ofK n = 4 then n % 18446744073709551616 else n + (mostW (wideK (ofK n)) - 1)
def waveBits (n : Int) : List Bool := bitsN (headV (ofK n)).toNat (headN (ofK n)).toNat ++ bitsN (waveV n).toNat (wideK (ofK n)).toNat
theorem waveBits_len (n : Int) : ((waveBits n).length : Int) = sizeN n := by
  have h1 := headN_bd (ofK n)
  have h2 := wideK_bd (ofK n)
  simp only [waveBits, List.length_append, bitsN_len, sizeN]
  omega
theorem headV_bd (k : Nat) : 0 ≤ headV k ∧ headV k < 18446744073709551616 := by unfold headV; split <;> omega
theorem sizeN_bd (n : Int) : 1 ≤ sizeN n ∧ sizeN n ≤ 68 := by
  have h1 := headN_bd (ofK n)
  have h2 := wideK_bd (ofK n)
  unfold sizeN; omega
theorem waveV_bd (n : Int) : 0 ≤ waveV n ∧ waveV n < 18446744073709551616 := by
  unfold waveV
  split
  · omega
  · rename_i h
    unfold ofK at h ⊢
    split at h
    · omega
    · split at h
      · rename_i h0 h1; rw [if_neg h0, if_pos h1]; simp [mostW, wideK]; omega
      · split at h
        · rename_i h0 h1 h2; rw [if_neg h0, if_neg h1, if_pos h2]; simp [mostW, wideK]; omega
        · split at h
          · rename_i h0 h1 h2 h3; rw [if_neg h0, if_neg h1, if_neg h2, if_pos h3]; simp [mostW, wideK]; omega
          · omega

theorem most_any (o wd : Int) (hw : wd = 7 ∨ wd = 9 ∨ wd = 12) (w : World) : Calls Tryz.prog 212 #[.agg #[.int .i64 o, .int .i64 wd]] w fun e w' => e = .returned (.int .i64 (mostW wd)) ∧ Below w.heap.size w w' := by
  rcases hw with rfl | rfl | rfl
  · go_enter Tryz.func212, Tryz.ntmps212
    go_wp2
    go_ret
    exact ⟨rfl, by go_grown⟩
  · go_enter Tryz.func212, Tryz.ntmps212
    go_wp2
    go_ret
    exact ⟨rfl, by go_grown⟩
  · go_enter Tryz.func212, Tryz.ntmps212
    go_wp2
    go_ret
    exact ⟨rfl, by go_grown⟩
theorem mid_facts (n : Int) (h : 0 < ofK n ∧ ofK n < 4) : (wideK (ofK n) = 7 ∨ wideK (ofK n) = 9 ∨ wideK (ofK n) = 12) ∧ 64 ≤ mostW (wideK (ofK n)) ∧ mostW (wideK (ofK n)) ≤ 2048 ∧ -(mostW (wideK (ofK n))) < n ∧ n ≤ mostW (wideK (ofK n)) := by
  have h1 := hasB_of n
  have h2 : ofK n = 1 ∨ ofK n = 2 ∨ ofK n = 3 := by omega
  rcases h2 with h2 | h2 | h2 <;> rw [h2] at h1 ⊢ <;> simp [wideK, hasB, mostW] at h1 ⊢ <;> omega

set_option maxHeartbeats 2000000 in
theorem wput_ok (g : Nat) (bv : Value) (l : List Bool) (n : Int) (w : World) (h : RowAt w g bv l) (hm : (l.length : Int) + sizeN n ≤ 1048576) :
    Calls Tryz.prog 170 #[.pointer (some ⟨g, 0, none⟩), .int .i64 n] w fun e w' => e = .returned .nilIface ∧ RowStep w w' g bv (l ++ waveBits n) := by
  have hK := ofK_le n
  have hs := sizeN_bd n
  obtain ⟨n0, n1⟩ := headN_bd (ofK n)
  obtain ⟨d0, d1⟩ := wideK_bd (ofK n)
  have hvb := headV_bd (ofK n)
  have hwv := waveV_bd n
  have hroom : (sizeN n) ≤ 1048576 - (l.length : Int) := by omega
  have hl : l.length ≤ 1048576 := by omega
  have hsz : sizeN n = headN (ofK n) + wideK (ofK n) := rfl
  have hm1 : (l.length : Int) + headN (ofK n) ≤ 1048576 := by omega
  have hm2 : ((l ++ bitsN (headV (ofK n)).toNat (headN (ofK n)).toNat).length : Int) + wideK (ofK n) ≤ 1048576 := by
    simp only [List.length_append, bitsN_len]; omega
  have hww : waveBits n = bitsN (headV (ofK n)).toNat (headN (ofK n)).toNat ++ bitsN (waveV n).toNat (wideK (ofK n)).toNat := rfl
  have Hsz := Lib.hid hsz; have H := Lib.hid h; have Hww := Lib.hid hww; have Hvb := Lib.hid hvb; have Hwv := Lib.hid hwv
  clear hsz h hww hvb hwv hm
  go_enter Tryz.func170, Tryz.ntmps170
  go_wp2_with fail
  refine (size_any n _).mono ?_
  rintro e w1 ⟨rfl, hb1⟩
  have Hb1 := Lib.hid hb1; clear hb1
  go_wp2_with fail
  refine (room_any g bv l (sizeN n) w1 (H.out.below Hb1.out (Nat.le_refl _)) hl).mono ?_
  rintro e w' ⟨rfl, rfl⟩
  go_wp2_with fail
  refine (of_any n _).mono ?_
  rintro e w2 ⟨rfl, hb2⟩
  have Hb2 := Lib.hid hb2; clear hb2
  go_wp2_with fail
  refine (head_any (ofK n) hK _).mono ?_
  rintro e w3 ⟨rfl, hb3⟩
  have hr2 : RowAt w2 g bv l := (H.out.below Hb1.out (Nat.le_refl _)).below Hb2.out (Nat.le_refl _)
  have hr3 : RowAt w3 g bv l := (hr2.alloc (.cells #[.int .i64 (ofK n), .int .i64 (wideK (ofK n))] 290)).below hb3 (Nat.le_refl _)
  have hf3 : Blk w3 w2.heap.size 290 #[.int .i64 (ofK n), .int .i64 (wideK (ofK n))] := (Blk.new w2 _ _).below hb3 (by simp)
  have hbb : Below w.heap.size w w3 := by
    have a1 : Below w.heap.size w w2 := Below.call Hb1.out Hb2.out Hb1.out.size
    exact Below.call (Below.alloc a1 (Nat.le_trans Hb1.out.size Hb2.out.size) _) hb3 (by have := Nat.le_trans Hb1.out.size Hb2.out.size; simp; omega)
  have Hr3 := Lib.hid hr3; have Hf3 := Lib.hid hf3; have Hbb := Lib.hid hbb
  clear hb3 hr2 hr3 hf3 hbb
  go_wp2_with fail
  refine (put_any g bv l _ _ w3 Hr3.out (by omega) (by omega) hm1 Hvb.out.1 Hvb.out.2).mono ?_
  rintro e w4 ⟨rfl, hst⟩
  have hf4 := hst.blk Hr3.out Hf3.out (by decide) (by decide)
  have y0 := hf4.cell 0
  have y1 := hf4.cell 1
  simp only [List.getElem?_toArray, List.getElem?_cons_zero, List.getElem?_cons_succ] at y0 y1
  have hz4 := hf4.lt
  have hst' := RowStep.behind H.out Hbb.out (Nat.le_refl _) hst
  obtain ⟨bv4, hr4, hfr4, hmv4⟩ := hst'
  have Hr4 := Lib.hid hr4; have Hfr4 := Lib.hid hfr4; have Hmv4 := Lib.hid hmv4; have Hf4 := Lib.hid hf4
  clear hst hr4 hfr4 hmv4 hf4
  have fin : ∀ (W w5 : World), Below w4.heap.size w4 W → RowStep W w5 g bv4 ((l ++ bitsN (headV (ofK n)).toNat (headN (ofK n)).toNat) ++ bitsN (waveV n).toNat (wideK (ofK n)).toNat) → RowStep w w5 g bv (l ++ waveBits n) := by
    intro W w5 hW h5
    rw [Hww.out, ← List.append_assoc]
    exact RowStep.trans Hr4.out Hfr4.out Hmv4.out (RowStep.behind Hr4.out hW (Nat.le_refl _) h5)
  have Hfin := Lib.hid fin; clear fin
  have hc : ofK n = 0 ∨ ofK n = 4 ∨ (0 < ofK n ∧ ofK n < 4) := by omega
  rcases hc with hc | hc | hc
  · have hv : waveV n = n % 18446744073709551616 := by unfold waveV; rw [if_pos (.inl hc)]
    have hw0 : wideK (ofK n) = 0 := by rw [hc]; rfl
    have Hv := Lib.hid hv; have Hw0 := Lib.hid hw0
    have hwz : ¬ (0 < wideK (ofK n)) := by omega
    have hwz' : decide (0 < wideK (ofK n)) = false := by simpa using hwz
    clear hv hw0 hc
    go_wp2_with fail
    rw [IntKind.wrap_u64, ← Hv.out]
    refine (put_any g bv4 _ _ _ w4 Hr4.out (by omega) (by omega) hm2 Hwv.out.1 Hwv.out.2).mono ?_
    rintro e w5 ⟨rfl, hst⟩
    have Hst := Lib.hid (Hfin.out w4 w5 (Below.refl _ _) hst); clear hst
    go_wp2
    go_ret
    exact ⟨rfl, Hst.out⟩
  · have hv : waveV n = n % 18446744073709551616 := by unfold waveV; rw [if_pos (.inr hc)]
    have hw0 : wideK (ofK n) = 64 := by rw [hc]; rfl
    have hd64 : 64 ≤ wideK (ofK n) := by omega
    have Hv := Lib.hid hv
    clear hv hw0 hc
    go_wp2_with fail
    rw [IntKind.wrap_u64, ← Hv.out]
    refine (put_any g bv4 _ _ _ w4 Hr4.out (by omega) (by omega) hm2 Hwv.out.1 Hwv.out.2).mono ?_
    rintro e w5 ⟨rfl, hst⟩
    have Hst := Lib.hid (Hfin.out w4 w5 (Below.refl _ _) hst); clear hst
    go_wp2
    go_ret
    exact ⟨rfl, Hst.out⟩
  · have hv : waveV n = n + (mostW (wideK (ofK n)) - 1) := by unfold waveV; rw [if_neg (by omega)]
    obtain ⟨m1, m2, m3, m4, m5⟩ := mid_facts n hc
    have hd1 : 0 < wideK (ofK n) := by omega
    have hd2 : wideK (ofK n) < 64 := by omega
    have Hv := Lib.hid hv; have Hm1 := Lib.hid m1
    clear hv hc m1
    go_wp2_with fail
    refine (most_any _ _ Hm1.out _).mono ?_
    rintro e w5 ⟨rfl, hb5⟩
    have hr5 := Hr4.out.below hb5 (Nat.le_refl _)
    have hf5 := Hf4.out.below hb5 Hf4.out.lt
    have u1 := hf5.cell 1
    simp only [List.getElem?_toArray, List.getElem?_cons_zero, List.getElem?_cons_succ] at u1
    have Hr5 := Lib.hid hr5; have Hb5 := Lib.hid hb5
    clear hr5 hb5 hf5
    go_wp2_with fail
    rw [← Hv.out]
    refine (put_any g bv4 _ _ _ w5 Hr5.out (by omega) (by omega) hm2 Hwv.out.1 Hwv.out.2).mono ?_
    rintro e w6 ⟨rfl, hst⟩
    have Hst := Lib.hid (Hfin.out w5 w6 Hb5.out hst); clear hst
    go_wp2
    go_ret
    exact ⟨rfl, Hst.out⟩
end Go.Proofs.YtfkklcmepcocoaaGreatDoor
