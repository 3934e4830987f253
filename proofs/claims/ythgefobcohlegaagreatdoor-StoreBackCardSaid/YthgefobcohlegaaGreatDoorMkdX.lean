/- package bits' Row by contracts: New, Put, Len, Room, Bytes: a row of bits as it lies in memory. -/
import Derived.Test.YthgefobcohlegaaGreatDoorProg
import Derived.Test.YthgefobcohlegaaGreatDoorMkbX
import Derived.BigRegion
import Derived.Test.YthgefobcohlegaaGreatDoorBaseX
namespace Go.Proofs.YthgefobcohlegaaGreatDoor
open Go.RowKit
set_option linter.unusedVariables false

theorem infoU8 : (Tryz.prog.info? 5).map (fun i => (i.zero, i.size, i.bytes)) = some (some (.int .u8 0), 1, 1) := by kernel_rfl

/-- Block g is a row of the bits l; its bytes are the slice bv. -/
def RowAt (w : World) (g : Nat) (bv : Value) (l : List Bool) : Prop :=
  Blk w g 282 #[bv, .int .i64 l.length] ∧ w.ownsRow g 5 1 bv (packN l).length ((packN l).map fun x : Nat => Value.int .u8 (x : Int))
/-- The blocks of a row. -/
def RowS (g : Nat) (bv : Value) (k : Nat) : Prop := k = g ∨ bv.ownBlock = some k
/-- Where a row's bytes may have gone: they stand where they stood, or in a new block. -/
def Mv (w : World) (bv bv' : Value) : Prop := bv'.ownBlock = bv.ownBlock ∨ ∃ k, bv'.ownBlock = some k ∧ w.heap.size ≤ k
theorem Mv.refl (w : World) (bv : Value) : Mv w bv bv := .inl rfl
theorem Mv.trans {w w1 : World} {a b c : Value} (h : Mv w a b) (k : Mv w1 b c) (hs : w.heap.size ≤ w1.heap.size) : Mv w a c := by
  rcases k with k | ⟨q, k1, k2⟩
  · rcases h with h | ⟨q, h1, h2⟩
    · exact .inl (k.trans h)
    · exact .inr ⟨q, k.trans h1, h2⟩
  · exact .inr ⟨q, k1, Nat.le_trans hs k2⟩
theorem RowS.of_mv {w : World} {g : Nat} {bv bv' : Value} (h : Mv w bv bv') : ∀ i, i < w.heap.size → RowS g bv' i → RowS g bv i := by
  intro i hi hs
  rcases hs with rfl | hs
  · exact .inl rfl
  · rcases h with h | ⟨k, h1, h2⟩
    · exact .inr (by rw [← h]; exact hs)
    · rw [hs] at h1; injection h1 with h1; omega
theorem RowAt.lt {w : World} {g : Nat} {bv : Value} {l : List Bool} (h : RowAt w g bv l) : g < w.heap.size := h.1.lt
theorem RowAt.below {w w' : World} {g B : Nat} {bv : Value} {l : List Bool} (h : RowAt w g bv l) (hb : Below B w w') (hB : w.heap.size ≤ B) : RowAt w' g bv l :=
  ⟨h.1.below hb (Nat.lt_of_lt_of_le h.lt hB), own_below h.2 hb hB⟩
theorem RowAt.alloc {w : World} {g : Nat} {bv : Value} {l : List Bool} (h : RowAt w g bv l) (o : Obj) : RowAt (w.alloc o) g bv l := ⟨h.1.alloc o, h.2.alloc o⟩
theorem RowAt.drew {w : World} {g : Nat} {bv : Value} {l : List Bool} (h : RowAt w g bv l) : RowAt w.drew g bv l := ⟨h.1, h.2⟩
theorem RowAt.drewN {w : World} {g : Nat} {bv : Value} {l : List Bool} (h : RowAt w g bv l) (n : Nat) : RowAt (w.drewN n) g bv l := ⟨h.1, h.2⟩
theorem RowAt.form {w : World} {g : Nat} {bv : Value} {l : List Bool} (h : RowAt w g bv l) : ∃ A c, bv = .slice A (packN l).length c := by
  obtain ⟨A, c, e, _⟩ := own_form h.2
  exact ⟨A, c, e⟩
theorem RowAt.facts {w : World} {g : Nat} {bv : Value} {l : List Bool} (h : RowAt w g bv l) :
    w.cell? ⟨g, 0, none⟩ = some bv ∧ w.cell? ⟨g, 1, none⟩ = some (.int .i64 l.length) ∧ w.frozen? ⟨g, 0, none⟩ = false ∧ w.frozen? ⟨g, 1, none⟩ = false :=
  ⟨h.1.cell 0, h.1.cell 1, h.1.frozen 0, h.1.frozen 1⟩

theorem new_any (w : World) : Calls Tryz.prog 155 #[] w fun e w' => e = .returned (.pointer (some ⟨w.heap.size, 0, none⟩)) ∧ w' = w.alloc (.cells #[.slice none 0 0, .int .i64 0] 282) := by
  go_enter Tryz.func155, Tryz.ntmps155
  go_wp2
  go_ret
  exact ⟨rfl, rfl⟩
theorem new_row (w : World) : RowAt (w.alloc (.cells #[.slice none 0 0, .int .i64 0] 282)) w.heap.size (.slice none 0 0) [] :=
  ⟨Blk.new _ _ _, World.ownsRow_nil _ _ _ _⟩
theorem room_any (g : Nat) (bv : Value) (l : List Bool) (n : Int) (w : World) (h : RowAt w g bv l) (hl : l.length ≤ 1048576) :
    Calls Tryz.prog 190 #[.pointer (some ⟨g, 0, none⟩), .int .i64 n] w fun e w' => e = .returned (.bool (decide (n ≤ 1048576 - (l.length : Int)))) ∧ w = w' := by
  obtain ⟨h0, h1, _, _⟩ := h.facts
  clear h
  go_enter Tryz.func190, Tryz.ntmps190
  go_wp2
  go_ret
  exact ⟨rfl, rfl⟩

/-! ### One bit more -/
section
variable {w : World} {g : Nat} {bv : Value} {l : List Bool}
theorem rowP_of (h : RowAt w g bv l) (hm : l.length % 8 ≠ 0) : w.ownsRow g 5 1 bv (packP l).length ((packP l).map fun x : Nat => Value.int .u8 (x : Int)) := by
  have e : packP l = packN l := by rw [packP_eq, if_neg hm]
  rw [e]; exact h.2
/-- A bit 0 behind: only the count has turned. -/
theorem bit_zero {n : Nat} (hn : n = (packP l).length) (hb : Blk w g 282 #[bv, .int .i64 l.length]) (ho : w.ownsRow g 5 1 bv n ((packP l).map fun x : Nat => Value.int .u8 (x : Int))) :
    RowAt (w.setCell ⟨g, 1, none⟩ (.int .i64 ((l.length : Int) + 1))) g bv (l ++ [false]) := by
  subst hn
  refine ⟨?_, ?_⟩
  · have := hb.set_ 1 (.int .i64 ((l.length : Int) + 1))
    have e : ((l ++ [false]).length : Int) = (l.length : Int) + 1 := by simp
    rw [e]; exact this
  · rw [packN_snoc_false]
    exact own_set ho (own_ne_blk ho hb (by decide)) _
/-- A bit 1 behind: its byte, and the count. -/
theorem bit_one {n b c : Nat} (hn : n = (packP l).length) (hb : Blk w g 282 #[.slice (some ⟨b, 0, none⟩) n c, .int .i64 l.length]) (ho : w.ownsRow g 5 1 (.slice (some ⟨b, 0, none⟩) n c) n ((packP l).map fun x : Nat => Value.int .u8 (x : Int))) :
    RowAt (((w.setCell ⟨b, l.length / 8, none⟩ (.int .u8 (byteAt (l ++ [true]) (l.length / 8) : Int))).drew).setCell ⟨g, 1, none⟩ (.int .i64 ((l.length : Int) + 1))) g (.slice (some ⟨b, 0, none⟩) n c) (l ++ [true]) := by
  subst hn
  have hne := own_ne_blk ho hb (by decide)
  have hne' : g ≠ b := by intro e; exact hne (by simp [Value.ownBlock, e])
  obtain ⟨ho2, _⟩ := ho.stored (l.length / 8) (.int .u8 (byteAt (l ++ [true]) (l.length / 8) : Int))
  have hb2 : Blk (w.setCell ⟨b, l.length / 8, none⟩ (.int .u8 (byteAt (l ++ [true]) (l.length / 8) : Int))).drew g 282 #[.slice (some ⟨b, 0, none⟩) (packP l).length c, .int .i64 l.length] := (hb.far hne' _).drew
  refine ⟨?_, ?_⟩
  · have := hb2.set_ 1 (.int .i64 ((l.length : Int) + 1))
    have e : ((l ++ [true]).length : Int) = (l.length : Int) + 1 := by simp
    rw [e]; exact this
  · have e : packN (l ++ [true]) = (packP l).set (l.length / 8) (byteAt (l ++ [true]) (l.length / 8)) := packN_snoc l true
    have e2 : (packN (l ++ [true])).length = (packP l).length := by rw [e, List.length_set]
    rw [e2, e, List.map_set]
    exact own_set (own_drew ho2) hne _
theorem Mv.at_ {w : World} {g b n c : Nat} {bv : Value} (h : Mv w bv (.slice (some ⟨b, 0, none⟩) n c)) : w.heap.size ≤ b ∨ RowS g bv b := by
  rcases h with h | ⟨k, h1, h2⟩
  · exact .inr (.inr (by rw [← h]; rfl))
  · have : b = k := by simpa [Value.ownBlock] using h1
    subst this; exact .inl h2
/-- Behind the append of one byte more. -/
theorem appended {wa : World} {v' : Value} (h : RowAt w g bv l) (h8 : l.length % 8 = 0) (hown : wa.ownsRow g 5 1 v' ((packN l).length + 1) ((packN l).map (fun x : Nat => Value.int .u8 (x : Int)) ++ [.int .u8 0]))
    (hgr : (w.alloc (.cells #[.int .u8 0] 5)).grownBy wa bv.ownBlock) (hat : v'.ownBlock = bv.ownBlock ∨ v'.ownBlock = some (w.alloc (.cells #[.int .u8 0] 5)).heap.size) :
    ∃ b c, v' = .slice (some ⟨b, 0, none⟩) ((packN l).length + 1) c ∧ ¬ g = b ∧ ¬ b = g ∧ Mv w bv v' ∧ Blk wa g 282 #[bv, .int .i64 l.length] ∧
      wa.ownsRow g 5 1 v' ((packN l).length + 1) ((packP l).map fun x : Nat => Value.int .u8 (x : Int)) ∧ (packN l).length + 1 = (packP l).length ∧ g < wa.heap.size := by
  obtain ⟨b, c, rfl, h1, h2⟩ := own_some hown (by omega)
  have hB : Blk wa g 282 #[bv, .int .i64 l.length] := (h.1.alloc (.cells #[.int .u8 0] 5)).grown hgr (own_ne_blk (h.2.alloc (.cells #[.int .u8 0] 5)) (h.1.alloc (.cells #[.int .u8 0] 5)) (by decide))
  have hne := own_ne_blk hown hB (by decide)
  have e : packP l = packN l ++ [0] := by rw [packP_eq, if_pos h8]
  refine ⟨b, c, rfl, fun e => hne (by simp [Value.ownBlock, e]), fun e => hne (by simp [Value.ownBlock, e]), ?_, hB, ?_, by rw [e]; simp, hB.lt⟩
  · rcases hat with hat | hat
    · exact .inl hat
    · exact .inr ⟨_, hat, by simp⟩
  · rw [e]; simpa using hown
end

set_option maxRecDepth 100000 in
set_option maxHeartbeats 4000000 in
theorem put_nat (g : Nat) (bv : Value) (l : List Bool) (v n : Nat) (w : World) (h : RowAt w g bv l) (hn : n ≤ 64) (hm : l.length + n ≤ 1048576) (hv : v < 18446744073709551616) :
    Calls Tryz.prog 157 #[.pointer (some ⟨g, 0, none⟩), .int .u64 (v : Int), .int .i64 (n : Int)] w fun e w' => e = .returned .nilIface ∧
      ∃ bv', RowAt w' g bv' (l ++ bitsN v n) ∧ Fr (RowS g bv) w w' ∧ Mv w bv bv' := by
  obtain ⟨i0, hi, hz0, hz1, hz2⟩ := info_parts infoU8
  have Hi := Lib.hid hi; have Hz0 := Lib.hid hz0; have Hz1 := Lib.hid hz1; have Hz2 := Lib.hid hz2
  clear hi hz0 hz1 hz2
  obtain ⟨h0, h1, f0, f1⟩ := h.facts
  obtain ⟨A0, c0, rfl⟩ := h.form
  have H := Lib.hid h
  have hn' : (n : Int) ≤ 64 := by omega
  have hm' : (l.length : Int) + n ≤ 1048576 := by omega
  clear h
  go_enter Tryz.func157, Tryz.ntmps157
  go_wp2
  go_loopw [7] (fun i wr => ∃ (j : Nat) (x : Int) (bv1 : Value), i = .int .i64 x ∧ x + 1 = (j : Int) ∧ j ≤ n ∧ RowAt wr g bv1 (l ++ (bitsN v n).take (n - j)) ∧ Fr (RowS g (.slice A0 (packN l).length c0)) w wr ∧ Mv w (.slice A0 (packN l).length c0) bv1) (fun i _ => (intOf i + 1).toNat)
  case atStart =>
    refine ⟨n, (n : Int) - 1, _, rfl, by omega, Nat.le_refl _, ?_, Fr.refl _ _, Mv.refl _ _⟩
    rw [Nat.sub_self, List.take_zero, List.append_nil]; exact H.out
  case round =>
    obtain ⟨j, x, bv1, rfl, hx, hj, hrow, hfr, hmv⟩ := hrel
    clear h0 h1 f0 f1
    by_cases hj0 : j = 0
    · subst hj0
      have hx' : x < 0 := by omega
      have e : (bitsN v n).take (n - 0) = bitsN v n := List.take_of_length_le (by rw [bitsN_len]; omega)
      rw [e] at hrow
      have Hrow := Lib.hid hrow; have Hfr := Lib.hid hfr; have Hmv := Lib.hid hmv; have He := Lib.hid e
      clear hrow hfr hmv e hx
      go_wp2
      go_ret
      exact ⟨rfl, bv1, Hrow.out, Hfr.out, Hmv.out⟩
    · obtain ⟨i, rfl⟩ : ∃ i : Nat, x = (i : Int) := ⟨x.toNat, by omega⟩
      obtain rfl : j = i + 1 := by omega
      have hl : (l ++ (bitsN v n).take (n - (i + 1))).length = l.length + n - (i + 1) := by rw [List.length_append, List.length_take, bitsN_len]; omega
      have hnext : l ++ (bitsN v n).take (n - i) = (l ++ (bitsN v n).take (n - (i + 1))) ++ [v.testBit i] := by
        have e1 : n - i = (n - (i + 1)) + 1 := by omega
        rw [e1, bitsN_take v n _ (by omega), List.append_assoc]
        have e2 : n - 1 - (n - (i + 1)) = i := by omega
        rw [e2]
      obtain ⟨g0, g1, q0, q1⟩ := hrow.facts
      generalize hl' : l ++ (bitsN v n).take (n - (i + 1)) = l' at hl hnext hrow g1
      have Hnext := Lib.hid hnext; have Hl := Lib.hid hl; have Hl' := Lib.hid hl'; have Hfr := Lib.hid hfr; have Hmv := Lib.hid hmv
      have hlm : (l'.length : Int) < 1048576 := by omega
      have hi64 : i < 64 := by omega
      clear hnext hl hl' hfr hmv hx hj0
      have hbt := bit_test v i hv
      by_cases h8 : l'.length % 8 = 0
      · have h8' : (((l'.length : Int) % 8) == 0) = true := by rw [beq_iff_eq]; omega
        have hrd : Rd (wr.alloc (.cells #[.int .u8 0] 5)) (wr.alloc (.cells #[.int .u8 0] 5)).heap.size 1 (some ⟨wr.heap.size, 0, none⟩) 1 [.int .u8 0] :=
          ⟨rfl, fun _ => ⟨_, _, rfl, by simp, fun j u hu => by rw [Nat.zero_add, (Blk.new wr _ _).cell]; simpa using hu⟩⟩
        have hpl := packN_len l'
        have hb0 : (packN l').length + 1 ≤ maxLen := by unfold maxLen; omega
        have hb1 : ((packN l').length + 1) * 1 ≤ 140737488355328 := by omega
        have hb2 : g ≤ (wr.alloc (.cells #[.int .u8 0] 5)).heap.size := by have := hrow.lt; simp; omega
        have hlen2 : (l'.length : Int) / 8 < ((packN l').length : Int) + 1 := by omega
        have hor := or_bit l'
        have Hrow := Lib.hid hrow; have H8 := Lib.hid h8; have Hpl := Lib.hid hpl; have Hor := Lib.hid hor; have Hrd := Lib.hid hrd
        have rest : ∀ (wa : World) (v' : Value), wa.ownsRow g 5 1 v' ((packN l').length + 1) ((packN l').map (fun x : Nat => Value.int .u8 (x : Int)) ++ [.int .u8 0]) → (wr.alloc (.cells #[.int .u8 0] 5)).grownBy wa bv1.ownBlock →
            (v'.ownBlock = bv1.ownBlock ∨ v'.ownBlock = some (wr.alloc (.cells #[.int .u8 0] 5)).heap.size) →
            ∃ b c, v' = .slice (some ⟨b, 0, none⟩) ((packN l').length + 1) c ∧ ¬ g = b ∧ ¬ b = g ∧ Hid (Mv w (.slice A0 (packN l).length c0) v') ∧ Hid (Blk wa g 282 #[bv1, .int .i64 l'.length]) ∧
              Hid (wa.ownsRow g 5 1 v' ((packN l').length + 1) ((packP l').map fun x : Nat => Value.int .u8 (x : Int))) ∧ Hid ((packN l').length + 1 = (packP l').length) ∧ g < wa.heap.size ∧ Hid (Fr (RowS g (.slice A0 (packN l).length c0)) w wa) ∧
              wa.cell? ⟨g, 0, none⟩ = some bv1 ∧ wa.cell? ⟨g, 1, none⟩ = some (.int .i64 l'.length) ∧ wa.frozen? ⟨g, 0, none⟩ = false ∧ wa.frozen? ⟨g, 1, none⟩ = false ∧
              wa.cell? ⟨b, l'.length / 8, none⟩ = some (.int .u8 (byteAt l' (l'.length / 8) : Int)) ∧ wa.frozen? ⟨b, l'.length / 8, none⟩ = false := by
          intro wa v' h1 h2 h3
          obtain ⟨b, c, rfl, q1, q2, q3, q4, q5, q6, q7⟩ := appended Hrow.out H8.out h1 h2 h3
          have q5' := q5
          have hx := q5.cellAt (l'.length / 8) (by have := packP_len l'; omega)
          rw [List.getElem?_map, packP_get] at hx
          refine ⟨b, c, rfl, q1, q2, Mv.trans Hmv.out q3 Hfr.out.size, q4, q5', q6, q7, ?_, q4.cell 0, q4.cell 1, q4.frozen 0, q4.frozen 1, hx, q5.frozenAt _⟩
          refine Fr.grown (Hfr.out.alloc _) h2 (fun k hk => ?_)
          rcases Hmv.out with hm | ⟨k', m1, m2⟩
          · exact .inr (.inr (by rw [← hm]; exact hk))
          · rw [hk] at m1; injection m1 with m1; exact .inl (by omega)
        have Hrest := Lib.hid rest
        clear hrow h8 hpl hor hrd rest
        cases hbv : v.testBit i
        · rw [hbv] at hbt
          have Hbv := Lib.hid hbv
          clear hbv
          go_wp2_with (at_builtin; refine wpList_append_rd _ rfl (.tmp 39) (.tmp 40) _ rfl g 5 i0 (.int .u8 0) 1 1 Tryz.underlying69 Hi.out Hz0.out Hz1.out Hz2.out rfl (by decide) bv1 _ _ rfl (Hrow.out.2.alloc _) _ _ 1 1 [.int .u8 0] rfl Hrd.out (by intro u hu; simp at hu; subst hu; rfl) hb0 hb1 hb2 ?_; intro v' wa hown' hgr hat; obtain ⟨b, c, rfl, hne1, hne2, Hmv2, HB, HP, HPL, hgz, Hfr2, k0, k1, k2, k3, k4, k5⟩ := Hrest.out wa v' hown' hgr hat; clear hown' hgr hat)
          refine ⟨⟨i, (i : Int) - 1, _, rfl, by omega, by omega, ?_, ?_, Hmv2.out⟩, by simp [intOf]⟩
          · rw [Hnext.out, Hbv.out]
            have hB2 := HB.out.set_ 0 (.slice (some ⟨b, 0, none⟩) ((packN l').length + 1) c)
            exact bit_zero HPL.out hB2 (own_set HP.out (own_ne_blk HP.out HB.out (by decide)) _)
          · exact (Hfr2.out.setCell (.inr (.inl rfl)) _).setCell (.inr (.inl rfl)) _
        · rw [hbv] at hbt
          have Hbv := Lib.hid hbv
          clear hbv
          go_wp2_with (at_builtin; refine wpList_append_rd _ rfl (.tmp 39) (.tmp 40) _ rfl g 5 i0 (.int .u8 0) 1 1 Tryz.underlying69 Hi.out Hz0.out Hz1.out Hz2.out rfl (by decide) bv1 _ _ rfl (Hrow.out.2.alloc _) _ _ 1 1 [.int .u8 0] rfl Hrd.out (by intro u hu; simp at hu; subst hu; rfl) hb0 hb1 hb2 ?_; intro v' wa hown' hgr hat; obtain ⟨b, c, rfl, hne1, hne2, Hmv2, HB, HP, HPL, hgz, Hfr2, k0, k1, k2, k3, k4, k5⟩ := Hrest.out wa v' hown' hgr hat; clear hown' hgr hat)
          go_region
          go_wp2
          refine ⟨⟨i, (i : Int) - 1, _, rfl, by omega, by omega, ?_, ?_, Hmv2.out⟩, by simp [intOf]⟩
          · rw [Hnext.out, Hbv.out, Hor.out]
            have hB2 := HB.out.set_ 0 (.slice (some ⟨b, 0, none⟩) ((packN l').length + 1) c)
            exact bit_one HPL.out hB2 (own_set HP.out (own_ne_blk HP.out HB.out (by decide)) _)
          · exact (Fr.drew ((Hfr2.out.setCell (.inr (.inl rfl)) _).setCell Hmv2.out.at_ _)).setCell (.inr (.inl rfl)) _
      · have h8' : (((l'.length : Int) % 8) == 0) = false := by rw [beq_eq_false_iff_ne]; omega
        have hP := rowP_of hrow h8
        have hpl := packP_len l'
        obtain ⟨b, c, rfl, hgb, hbz⟩ := own_some hP (by omega)
        have hB := hrow.1
        have hne := own_ne_blk hP hB (by decide)
        have hne1 : ¬ g = b := by intro e; exact hne (by simp [Value.ownBlock, e])
        have hne2 : ¬ b = g := fun e => hne1 e.symm
        have hx := hP.cellAt (l'.length / 8) (by omega)
        rw [List.getElem?_map, packP_get] at hx
        have fx := hP.frozenAt (l'.length / 8)
        simp only [Option.map_some] at hx
        have hor := or_bit l'
        have hlen2 : (l'.length : Int) / 8 < ((packP l').length : Int) := by omega
        have HP := Lib.hid hP; have HB := Lib.hid hB; have Hrow := Lib.hid hrow; have H8 := Lib.hid h8; have Hpl := Lib.hid hpl; have Hor := Lib.hid hor; have Hne := Lib.hid hne
        clear hP hB hrow h8 hpl hor hne
        cases hbv : v.testBit i
        · rw [hbv] at hbt
          have Hbv := Lib.hid hbv
          clear hbv
          go_wp2
          refine ⟨⟨i, (i : Int) - 1, _, rfl, by omega, by omega, ?_, Hfr.out.setCell (.inr (.inl rfl)) _, Hmv.out⟩, by simp [intOf]⟩
          rw [Hnext.out, Hbv.out]
          exact bit_zero rfl HB.out HP.out
        · rw [hbv] at hbt
          have Hbv := Lib.hid hbv
          clear hbv
          go_wp2
          go_region
          go_wp2
          refine ⟨⟨i, (i : Int) - 1, _, rfl, by omega, by omega, ?_, (Fr.drew (Hfr.out.setCell Hmv.out.at_ _)).setCell (.inr (.inl rfl)) _, Hmv.out⟩, by simp [intOf]⟩
          rw [Hnext.out, Hbv.out, Hor.out]
          exact bit_one rfl HB.out HP.out
end Go.Proofs.YthgefobcohlegaaGreatDoor

namespace Go.Proofs.YthgefobcohlegaaGreatDoor
open Go.RowKit
set_option linter.unusedVariables false

/-- The form of a number: how many bits are 1 at its head; how many follow. -/
def ofK (n : Int) : Nat := if n = 0 then 0 else if -64 < n ∧ n ≤ 64 then 1 else if -256 < n ∧ n ≤ 256 then 2 else if -2048 < n ∧ n ≤ 2048 then 3 else 4
def wideK (k : Nat) : Int := match k with | 0 => 0 | 1 => 7 | 2 => 9 | 3 => 12 | _ => 64
def mostW (wd : Int) : Int := if wd = 7 then 64 else if wd = 9 then 256 else 2048
def hasB (wd n : Int) : Bool := if wd = 0 then decide (n = 0) else if wd = 64 then true else decide (-(mostW wd) < n ∧ n ≤ mostW wd)
def headV (k : Nat) : Int := match k with | 0 => 0 | 1 => 2 | 2 => 6 | 3 => 14 | _ => 15
def headN (k : Nat) : Int := match k with | 0 => 1 | 1 => 2 | 2 => 3 | _ => 4
def sizeN (n : Int) : Int := headN (ofK n) + wideK (ofK n)
def formsL : List (Int × Int) := [(0, 0), (1, 7), (2, 9), (3, 12), (4, 64)]

theorem ofK_le (n : Int) : ofK n ≤ 4 := by unfold ofK; repeat' split
                                           all_goals omega
theorem forms_get (k : Nat) (hk : k ≤ 4) : formsL[k]? = some ((k : Int), wideK k) := by
  rcases k with _ | _ | _ | _ | _ | k
  · rfl
  · rfl
  · rfl
  · rfl
  · rfl
  · omega
theorem hasB_of (n : Int) : hasB (wideK (ofK n)) n = true := by
  unfold ofK
  split
  · rename_i h; simp [wideK, hasB, h]
  · split
    · rename_i h; simp [wideK, hasB, mostW]; omega
    · split
      · rename_i h; simp [wideK, hasB, mostW]; omega
      · split
        · rename_i h; simp [wideK, hasB, mostW]; omega
        · simp [wideK, hasB]
theorem hasB_before (n : Int) (k : Nat) (h : k < ofK n) : hasB (wideK k) n = false := by
  have h4 := ofK_le n
  have hc : (k = 0 ∨ k = 1 ∨ k = 2 ∨ k = 3) := by omega
  unfold ofK at h
  split at h
  · omega
  · rename_i h0
    split at h
    · obtain rfl : k = 0 := by omega
      simp [wideK, hasB, h0]
    · rename_i h1
      split at h
      · rcases hc with rfl | rfl | rfl | rfl
        · simp [wideK, hasB, h0]
        · simp [wideK, hasB, mostW]; omega
        · omega
        · omega
      · rename_i h2
        split at h
        · rcases hc with rfl | rfl | rfl | rfl
          · simp [wideK, hasB, h0]
          · simp [wideK, hasB, mostW]; omega
          · simp [wideK, hasB, mostW]; omega
          · omega
        · rename_i h3
          rcases hc with rfl | rfl | rfl | rfl
          · simp [wideK, hasB, h0]
          · simp [wideK, hasB, mostW]; omega
          · simp [wideK, hasB, mostW]; omega
          · simp [wideK, hasB, mostW]; omega

theorem has_zero (o n : Int) (w : World) : Calls Tryz.prog 219 #[.agg #[.int .i64 o, .int .i64 0], .int .i64 n] w fun e w' => e = .returned (.bool (hasB 0 n)) ∧ Below w.heap.size w w' := by
  by_cases h : n = 0
  · subst h
    have e : hasB 0 0 = true := rfl
    rw [e]
    go_enter Tryz.func219, Tryz.ntmps219
    go_wp2
    go_ret
    exact ⟨rfl, by go_grown⟩
  · have e : hasB 0 n = false := by simp [hasB, h]
    have h' : (n == 0) = false := by simpa using h
    rw [e]
    clear h
    go_enter Tryz.func219, Tryz.ntmps219
    go_wp2
    go_ret
    exact ⟨rfl, by go_grown⟩
theorem has_all (o n : Int) (w : World) : Calls Tryz.prog 219 #[.agg #[.int .i64 o, .int .i64 64], .int .i64 n] w fun e w' => e = .returned (.bool (hasB 64 n)) ∧ Below w.heap.size w w' := by
  have e : hasB 64 n = true := rfl
  rw [e]
  go_enter Tryz.func219, Tryz.ntmps219
  go_wp2
  go_ret
  exact ⟨rfl, by go_grown⟩
theorem has_mid (o wd n : Int) (w : World) (hw : wd = 7 ∨ wd = 9 ∨ wd = 12) : Calls Tryz.prog 219 #[.agg #[.int .i64 o, .int .i64 wd], .int .i64 n] w fun e w' => e = .returned (.bool (hasB wd n)) ∧ Below w.heap.size w w' := by
  have h1 : -(mostW wd) < n ∨ n ≤ -(mostW wd) := by omega
  have h2 : n ≤ mostW wd ∨ mostW wd < n := by omega
  have e : hasB wd n = decide (-(mostW wd) < n ∧ n ≤ mostW wd) := by rcases hw with rfl | rfl | rfl <;> rfl
  rcases hw with rfl | rfl | rfl <;> simp only [show mostW 7 = 64 from rfl, show mostW 9 = 256 from rfl, show mostW 12 = 2048 from rfl] at h1 h2 e <;> rcases h1 with h1 | h1 <;> rcases h2 with h2 | h2 <;> (try omega)
  all_goals
    simp only [e]
    clear e
    first
      | rw [decide_eq_true (⟨h1, h2⟩ : _ ∧ _)]
      | rw [decide_eq_false (by omega)]
    go_enter Tryz.func219, Tryz.ntmps219
    go_wp2
    go_ret
    refine ⟨?_, by go_grown⟩
    first | rfl | (simp; omega)
theorem has_any (y : Int × Int) (hy : y ∈ formsL) (n : Int) (w : World) : Calls Tryz.prog 219 #[.agg #[.int .i64 y.1, .int .i64 y.2], .int .i64 n] w fun e w' => e = .returned (.bool (hasB y.2 n)) ∧ Below w.heap.size w w' := by
  simp only [formsL, List.mem_cons, List.not_mem_nil, or_false] at hy
  rcases hy with rfl | rfl | rfl | rfl | rfl
  · exact has_zero _ _ _
  · exact has_mid _ _ _ _ (by simp)
  · exact has_mid _ _ _ _ (by simp)
  · exact has_mid _ _ _ _ (by simp)
  · exact has_all _ _ _

def formCells : Array Value := #[.int .i64 0, .int .i64 0, .int .i64 1, .int .i64 7, .int .i64 2, .int .i64 9, .int .i64 3, .int .i64 12, .int .i64 4, .int .i64 64]
theorem forms_any (w : World) : Calls Tryz.prog 218 #[] w fun e w' => e = .returned (.slice (some ⟨w.heap.size, 0, none⟩) 5 5) ∧ w' = w.alloc (.cells formCells 311) := by
  go_enter Tryz.func218, Tryz.ntmps218
  go_wp2
  go_ret
  exact ⟨rfl, rfl⟩
theorem forms_rd (w : World) {w' : World} (hw : w' = w.alloc (.cells formCells 311)) : Rd w' (w.heap.size + 1) 2 (some ⟨w.heap.size, 0, none⟩) 5 (formsL.flatMap fun y => [.int .i64 y.1, .int .i64 y.2]) := by
  subst hw
  refine ⟨rfl, fun _ => ⟨w.heap.size, 0, rfl, Nat.lt_succ_self _, fun j u hu => ?_⟩⟩
  rw [Nat.zero_add, (Blk.new w _ _).cell]
  have e : formCells = (formsL.flatMap fun y => [Value.int .i64 y.1, Value.int .i64 y.2]).toArray := rfl
  rw [e]
  simpa using hu

set_option maxHeartbeats 400000 in
theorem of_any (n : Int) (w : World) : Calls Tryz.prog 208 #[.int .i64 n] w fun e w' => e = .returned (.agg #[.int .i64 (ofK n), .int .i64 (wideK (ofK n))]) ∧ Below w.heap.size w w' := by
  have hK := ofK_le n
  go_enter Tryz.func208, Tryz.ntmps208
  go_wp2_with fail
  refine (forms_any _).mono ?_
  rintro e w1 ⟨rfl, hw1⟩
  have hrd := forms_rd _ hw1
  have hz1 : w1.heap.size = w.heap.size + 1 + 1 := by rw [hw1]; simp
  have hb1 : Below w.heap.size w w1 := by rw [hw1]; go_grown
  have hB1 : Blk w1 w.heap.size 311 #[.int .i64 0, .int .i64 0] := by
    rw [hw1]; exact (Blk.new w _ _).alloc _
  clear hw1
  simp only [World.size_alloc] at hrd
  have Hrd := Lib.hid hrd; have Hz1 := Lib.hid hz1; have Hb1 := Lib.hid hb1; have HB1 := Lib.hid hB1
  clear hrd hz1 hb1 hB1
  go_wp2
  go_loopw [7] (fun i wr => ∃ k : Nat, k ≤ ofK n ∧ i = .int .i64 k ∧ Below w1.heap.size w1 wr) (fun i _ => 5 - (intOf i).toNat)
  case atStart => exact ⟨0, Nat.zero_le _, rfl, Below.refl _ _⟩
  case round =>
    obtain ⟨k, hk, rfl, hbel⟩ := hrel
    obtain ⟨bb, off, y, hA, had, hy, e0, e1⟩ := (Hrd.out.below (hbel.mono (by rw [Hz1.out]; exact Nat.le_refl _))).at2 (k := k) (by omega)
    have hyv : y = ((k : Int), wideK k) := Option.some.inj (hy.symm.trans (forms_get k (by omega)))
    have hmem : y ∈ formsL := List.mem_of_getElem? hy
    injection hA with hA
    injection hA with hA1 hA2
    subst hA1; subst hA2
    simp only [Nat.zero_add] at e0 e1
    have Hy := Lib.hid hy; have Hyv := Lib.hid hyv; have Hbel := Lib.hid hbel; have Hmem := Lib.hid hmem
    clear hy hyv hbel hmem
    have hz : w.heap.size + 1 < wr.heap.size := by have := Hbel.out.size; rw [Hz1.out] at this; omega
    by_cases hlt : k < ofK n
    · have hh : hasB y.2 n = false := by rw [Hyv.out]; exact hasB_before n k hlt
      go_wp2_with (go_at_call 219; refine (has_any y Hmem.out n _).mono ?_; rintro e w2 ⟨rfl, hb2⟩; have hb2 := Lib.hid hb2)
      go_roundw
      case rel => exact ⟨k + 1, by omega, by go_num, Below.call (Below.alloc Hbel.out Hbel.out.size _) hb2.out (by have := Hbel.out.size; simp; omega)⟩
      case measure => simp [intOf]; omega
    · have hkk : k = ofK n := by omega
      have hh : hasB y.2 n = true := by rw [Hyv.out, hkk]; exact hasB_of n
      have Hkk := Lib.hid hkk
      clear hkk
      have hB2 : ∀ w2 : World, Below (wr.alloc (.cells #[.int .i64 y.1, .int .i64 y.2] 311)).heap.size (wr.alloc (.cells #[.int .i64 y.1, .int .i64 y.2] 311)) w2 →
          (Blk w2 w.heap.size 311 #[.int .i64 0, .int .i64 0] ∧ Blk w2 wr.heap.size 311 #[.int .i64 y.1, .int .i64 y.2] ∧ Below w.heap.size w w2) := by
        intro w2 hb2
        have q := HB1.out.below Hbel.out HB1.out.lt
        refine ⟨(q.alloc _).below hb2 (by simp; omega), (Blk.new wr _ _).below hb2 (by simp), ?_⟩
        exact Below.call (Below.alloc (Below.trans Hb1.out (Hbel.out.mono (by rw [Hz1.out]; omega))) (by omega) _) hb2 (by simp; omega)
      have HB2 := Lib.hid hB2
      clear hB2
      go_wp2_with (go_at_call 219; refine (has_any y Hmem.out n _).mono ?_; rintro e w2 ⟨rfl, hb2⟩; obtain ⟨b0, b1, b2⟩ := HB2.out w2 hb2; have z0 := b0.cell 0; have z1 := b0.cell 1; have f0 := b0.frozen 0; have f1 := b0.frozen 1; have y0 := b1.cell 0; have y1 := b1.cell 1; have b2 := Lib.hid b2; clear b0 b1 hb2; simp only [List.getElem?_toArray, List.getElem?_cons_zero, List.getElem?_cons_succ] at z0 z1 y0 y1)
      refine bodyPost_ret (v := .agg #[.int .i64 y.1, .int .i64 y.2]) (by simp [results, Tryz.results208, go_sem, z0, z1]) rfl ?_
      refine ⟨?_, (b2.out.setCell (by simp) _).setCell (by simp) _⟩
      rw [Hyv.out, ← Hkk.out]

theorem head_any (k : Nat) (hk : k ≤ 4) (w : World) : Calls Tryz.prog 209 #[.agg #[.int .i64 (k : Int), .int .i64 (wideK k)]] w fun e w' => e = .returned (.tuple #[.int .u64 (headV k), .int .i64 (headN k)]) ∧ Below w.heap.size w w' := by
  have hc : k = 0 ∨ k = 1 ∨ k = 2 ∨ k = 3 ∨ k = 4 := by omega
  rcases hc with rfl | rfl | rfl | rfl | rfl
  · go_enter Tryz.func209, Tryz.ntmps209
    go_wp2
    go_quiet (fail)
    go_wp2
    go_ret2
    exact ⟨rfl, Below.drewN (by go_grown) _⟩
  · go_enter Tryz.func209, Tryz.ntmps209
    go_wp2
    go_quiet (fail)
    go_wp2
    go_ret2
    exact ⟨rfl, Below.drewN (by go_grown) _⟩
  · go_enter Tryz.func209, Tryz.ntmps209
    go_wp2
    go_quiet (fail)
    go_wp2
    go_ret2
    exact ⟨rfl, Below.drewN (by go_grown) _⟩
  · go_enter Tryz.func209, Tryz.ntmps209
    go_wp2
    go_quiet (fail)
    go_wp2
    go_ret2
    exact ⟨rfl, Below.drewN (by go_grown) _⟩
  · go_enter Tryz.func209, Tryz.ntmps209
    go_wp2
    go_ret2
    exact ⟨rfl, by go_grown⟩

theorem headN_bd (k : Nat) : 1 ≤ headN k ∧ headN k ≤ 4 := by unfold headN; split <;> omega
theorem wideK_bd (k : Nat) : 0 ≤ wideK k ∧ wideK k ≤ 64 := by unfold wideK; split <;> omega
set_option maxHeartbeats 400000 in
theorem size_any (n : Int) (w : World) : Calls Tryz.prog 189 #[.int .i64 n] w fun e w' => e = .returned (.int .i64 (sizeN n)) ∧ Below w.heap.size w w' := by
  have hK := ofK_le n
  obtain ⟨n0, n1⟩ := headN_bd (ofK n)
  obtain ⟨d0, d1⟩ := wideK_bd (ofK n)
  go_enter Tryz.func189, Tryz.ntmps189
  go_wp2_with fail
  refine (of_any n _).mono ?_
  rintro e w1 ⟨rfl, hb1⟩
  have hb1 := Lib.hid hb1
  go_wp2_with fail
  refine (head_any (ofK n) hK _).mono ?_
  rintro e w2 ⟨rfl, hb2⟩
  have c1 := ((Blk.new w1 311 #[.int .i64 (ofK n), .int .i64 (wideK (ofK n))]).below hb2 (by simp)).cell 1
  simp only [List.getElem?_toArray, List.getElem?_cons_zero, List.getElem?_cons_succ] at c1
  have hb2 := Lib.hid hb2
  go_wp2
  go_ret
  exact ⟨rfl, Below.call (Below.alloc hb1.out hb1.out.size _) hb2.out (by have := hb1.out.size; simp; omega)⟩
end Go.Proofs.YthgefobcohlegaaGreatDoor

namespace Go.Proofs.YthgefobcohlegaaGreatDoor
open Go.RowKit
set_option linter.unusedVariables false

/-- The row at g has turned into the row of l; nothing else that was there has turned. -/
def RowStep (w w' : World) (g : Nat) (bv : Value) (l : List Bool) : Prop := ∃ bv', RowAt w' g bv' l ∧ Fr (RowS g bv) w w' ∧ Mv w bv bv'
theorem RowAt.S_lt {w : World} {g : Nat} {bv : Value} {l : List Bool} (h : RowAt w g bv l) : ∀ k, RowS g bv k → k < w.heap.size := by
  intro k hk
  rcases hk with rfl | hk
  · exact h.lt
  · exact (own_lt h.2 k hk).2
theorem RowAt.S_ge {w : World} {g : Nat} {bv : Value} {l : List Bool} (h : RowAt w g bv l) : ∀ k, RowS g bv k → g ≤ k := by
  intro k hk
  rcases hk with rfl | hk
  · exact Nat.le_refl _
  · exact (own_lt h.2 k hk).1
theorem RowStep.size {w w' : World} {g : Nat} {bv : Value} {l : List Bool} (h : RowStep w w' g bv l) : w.heap.size ≤ w'.heap.size := by
  obtain ⟨_, _, h, _⟩ := h; exact h.size
/-- Behind a callee that keeps all, then a step. -/
theorem RowStep.behind {w w1 w' : World} {B g : Nat} {bv : Value} {l l' : List Bool} (h0 : RowAt w g bv l') (hb : Below B w w1) (hB : w.heap.size ≤ B) (h : RowStep w1 w' g bv l) : RowStep w w' g bv l := by
  obtain ⟨bv', h1, h2, h3⟩ := h
  refine ⟨bv', h1, Fr.trans (S := RowS g bv) ((Fr.refl _ w).call hb hB) h2 (fun i _ hi => hi), ?_⟩
  rcases h3 with h3 | ⟨k, q1, q2⟩
  · exact .inl h3
  · exact .inr ⟨k, q1, Nat.le_trans hb.size q2⟩
theorem RowStep.before {w w1 w' : World} {B g : Nat} {bv : Value} {l : List Bool} (h : RowStep w w1 g bv l) (hb : Below B w1 w') (hB : w1.heap.size ≤ B) : RowStep w w' g bv l := by
  obtain ⟨bv', h1, h2, h3⟩ := h
  exact ⟨bv', h1.below hb hB, h2.call hb (Nat.le_trans h2.size hB), h3⟩
theorem RowStep.trans {w w1 w' : World} {g : Nat} {bv bv1 : Value} {l l' : List Bool} (h1 : RowAt w1 g bv1 l) (h2 : Fr (RowS g bv) w w1) (h3 : Mv w bv bv1) (h : RowStep w1 w' g bv1 l') : RowStep w w' g bv l' := by
  obtain ⟨bv', q1, q2, q3⟩ := h
  exact ⟨bv', q1, h2.trans q2 (RowS.of_mv h3), h3.trans q3 h2.size⟩
theorem RowStep.below {w w' : World} {g B : Nat} {bv : Value} {l l' : List Bool} (h0 : RowAt w g bv l') (h : RowStep w w' g bv l) (hB : B ≤ g) : Below B w w' := by
  obtain ⟨_, _, h2, _⟩ := h
  exact h2.below (by have := h0.lt; omega) (fun k hk hs => by have := h0.S_ge k hs; omega)
theorem RowStep.blk {w w' : World} {g q : Nat} {bv : Value} {l l' : List Bool} {t : TypeId} {cs : Array Value} (h0 : RowAt w g bv l') (h : RowStep w w' g bv l) (hq : Blk w q t cs) (ht : t ≠ 282) (ht' : t ≠ 5) : Blk w' q t cs := by
  obtain ⟨_, _, h2, _⟩ := h
  refine h2.blk hq ?_
  rintro (rfl | hs)
  · exact hq.ne_ h0.1 ht rfl
  · exact own_ne_blk h0.2 hq (fun e => ht' e.symm) hs.symm
theorem RowStep.own {w w' : World} {g : Nat} {bv : Value} {l l' : List Bool} {base : Nat} {e : TypeId} {size n : Nat} {v : Value} {xs : List Value} (h0 : RowAt w g bv l') (h : RowStep w w' g bv l) (ho : w.ownsRow base e size v n xs) (ht : e ≠ 282) (ht' : e ≠ 5) : w'.ownsRow base e size v n xs := by
  obtain ⟨_, _, h2, _⟩ := h
  refine h2.own ho (fun k hk => ?_)
  rintro (rfl | hs)
  · exact own_ne_blk ho h0.1 ht hk.symm
  · rcases own_ne_own ho h0.2 ht' with h | h
    · rw [h] at hk; cases hk
    · rw [hk, hs] at h; exact h rfl

theorem put_any (g : Nat) (bv : Value) (l : List Bool) (v n : Int) (w : World) (h : RowAt w g bv l) (hn0 : 0 ≤ n) (hn : n ≤ 64) (hm : (l.length : Int) + n ≤ 1048576) (hv0 : 0 ≤ v) (hv : v < 18446744073709551616) :
    Calls Tryz.prog 157 #[.pointer (some ⟨g, 0, none⟩), .int .u64 v, .int .i64 n] w fun e w' => e = .returned .nilIface ∧ RowStep w w' g bv (l ++ bitsN v.toNat n.toNat) := by
  obtain ⟨v, rfl⟩ := Int.eq_ofNat_of_zero_le hv0
  obtain ⟨n, rfl⟩ := Int.eq_ofNat_of_zero_le hn0
  exact put_nat g bv l v n w h (by omega) (by omega) (by omega)

/-- What a number's own bits say: the number, moved. -/
def waveV (n : Int) : Int := if ofK n = 0 ∨ ofK n = 4 then n % 18446744073709551616 else n + (mostW (wideK (ofK n)) - 1)
def waveBits (n : Int) : List Bool := bitsN (headV (ofK n)).toNat (headN (ofK n)).toNat ++ bitsN (waveV n).toNat (wideK (ofK n)).toNat
theorem waveBits_len (n : Int) : ((waveBits n).length : Int) = sizeN n := by
  have h1 := headN_bd (ofK n)
  have h2 := wideK_bd (ofK n)
  simp only [waveBits, List.length_append, bitsN_len, sizeN]
  omega
theorem headV_bd (k : Nat) : 0 ≤ headV k ∧ headV k < 18446744073709551616 := by unfold headV; split <;> omega
theorem sizeN_bd (n : Int) : 1 ≤ sizeN n ∧ sizeN n ≤ 68 := by
  have h1 := headN_bd (ofK n)
  have h2 := wideK_bd (ofK n)
  unfold sizeN; omega
theorem waveV_bd (n : Int) : 0 ≤ waveV n ∧ waveV n < 18446744073709551616 := by
  unfold waveV
  split
  · omega
  · rename_i h
    unfold ofK at h ⊢
    split at h
    · omega
    · split at h
      · rename_i h0 h1; rw [if_neg h0, if_pos h1]; simp [mostW, wideK]; omega
      · split at h
        · rename_i h0 h1 h2; rw [if_neg h0, if_neg h1, if_pos h2]; simp [mostW, wideK]; omega
        · split at h
          · rename_i h0 h1 h2 h3; rw [if_neg h0, if_neg h1, if_neg h2, if_pos h3]; simp [mostW, wideK]; omega
          · omega

theorem most_any (o wd : Int) (hw : wd = 7 ∨ wd = 9 ∨ wd = 12) (w : World) : Calls Tryz.prog 210 #[.agg #[.int .i64 o, .int .i64 wd]] w fun e w' => e = .returned (.int .i64 (mostW wd)) ∧ Below w.heap.size w w' := by
  rcases hw with rfl | rfl | rfl
  · go_enter Tryz.func210, Tryz.ntmps210
    go_wp2
    go_ret
    exact ⟨rfl, by go_grown⟩
  · go_enter Tryz.func210, Tryz.ntmps210
    go_wp2
    go_ret
    exact ⟨rfl, by go_grown⟩
  · go_enter Tryz.func210, Tryz.ntmps210
    go_wp2
    go_ret
    exact ⟨rfl, by go_grown⟩
theorem mid_facts (n : Int) (h : 0 < ofK n ∧ ofK n < 4) : (wideK (ofK n) = 7 ∨ wideK (ofK n) = 9 ∨ wideK (ofK n) = 12) ∧ 64 ≤ mostW (wideK (ofK n)) ∧ mostW (wideK (ofK n)) ≤ 2048 ∧ -(mostW (wideK (ofK n))) < n ∧ n ≤ mostW (wideK (ofK n)) := by
  have h1 := hasB_of n
  have h2 : ofK n = 1 ∨ ofK n = 2 ∨ ofK n = 3 := by omega
  rcases h2 with h2 | h2 | h2 <;> rw [h2] at h1 ⊢ <;> simp [wideK, hasB, mostW] at h1 ⊢ <;> omega

set_option maxHeartbeats 2000000 in
theorem wput_ok (g : Nat) (bv : Value) (l : List Bool) (n : Int) (w : World) (h : RowAt w g bv l) (hm : (l.length : Int) + sizeN n ≤ 1048576) :
    Calls Tryz.prog 191 #[.pointer (some ⟨g, 0, none⟩), .int .i64 n] w fun e w' => e = .returned .nilIface ∧ RowStep w w' g bv (l ++ waveBits n) := by
  have hK := ofK_le n
  have hs := sizeN_bd n
  obtain ⟨n0, n1⟩ := headN_bd (ofK n)
  obtain ⟨d0, d1⟩ := wideK_bd (ofK n)
  have hvb := headV_bd (ofK n)
  have hwv := waveV_bd n
  have hroom : (sizeN n) ≤ 1048576 - (l.length : Int) := by omega
  have hl : l.length ≤ 1048576 := by omega
  have hsz : sizeN n = headN (ofK n) + wideK (ofK n) := rfl
  have hm1 : (l.length : Int) + headN (ofK n) ≤ 1048576 := by omega
  have hm2 : ((l ++ bitsN (headV (ofK n)).toNat (headN (ofK n)).toNat).length : Int) + wideK (ofK n) ≤ 1048576 := by
    simp only [List.length_append, bitsN_len]; omega
  have hww : waveBits n = bitsN (headV (ofK n)).toNat (headN (ofK n)).toNat ++ bitsN (waveV n).toNat (wideK (ofK n)).toNat := rfl
  have Hsz := Lib.hid hsz; have H := Lib.hid h; have Hww := Lib.hid hww; have Hvb := Lib.hid hvb; have Hwv := Lib.hid hwv
  clear hsz h hww hvb hwv hm
  go_enter Tryz.func191, Tryz.ntmps191
  go_wp2_with fail
  refine (size_any n _).mono ?_
  rintro e w1 ⟨rfl, hb1⟩
  have Hb1 := Lib.hid hb1; clear hb1
  go_wp2_with fail
  refine (room_any g bv l (sizeN n) w1 (H.out.below Hb1.out (Nat.le_refl _)) hl).mono ?_
  rintro e w' ⟨rfl, rfl⟩
  go_wp2_with fail
  refine (of_any n _).mono ?_
  rintro e w2 ⟨rfl, hb2⟩
  have Hb2 := Lib.hid hb2; clear hb2
  go_wp2_with fail
  refine (head_any (ofK n) hK _).mono ?_
  rintro e w3 ⟨rfl, hb3⟩
  have hr2 : RowAt w2 g bv l := (H.out.below Hb1.out (Nat.le_refl _)).below Hb2.out (Nat.le_refl _)
  have hr3 : RowAt w3 g bv l := (hr2.alloc (.cells #[.int .i64 (ofK n), .int .i64 (wideK (ofK n))] 311)).below hb3 (Nat.le_refl _)
  have hf3 : Blk w3 w2.heap.size 311 #[.int .i64 (ofK n), .int .i64 (wideK (ofK n))] := (Blk.new w2 _ _).below hb3 (by simp)
  have hbb : Below w.heap.size w w3 := by
    have a1 : Below w.heap.size w w2 := Below.call Hb1.out Hb2.out Hb1.out.size
    exact Below.call (Below.alloc a1 (Nat.le_trans Hb1.out.size Hb2.out.size) _) hb3 (by have := Nat.le_trans Hb1.out.size Hb2.out.size; simp; omega)
  have Hr3 := Lib.hid hr3; have Hf3 := Lib.hid hf3; have Hbb := Lib.hid hbb
  clear hb3 hr2 hr3 hf3 hbb
  go_wp2_with fail
  refine (put_any g bv l _ _ w3 Hr3.out (by omega) (by omega) hm1 Hvb.out.1 Hvb.out.2).mono ?_
  rintro e w4 ⟨rfl, hst⟩
  have hf4 := hst.blk Hr3.out Hf3.out (by decide) (by decide)
  have y0 := hf4.cell 0
  have y1 := hf4.cell 1
  simp only [List.getElem?_toArray, List.getElem?_cons_zero, List.getElem?_cons_succ] at y0 y1
  have hz4 := hf4.lt
  have hst' := RowStep.behind H.out Hbb.out (Nat.le_refl _) hst
  obtain ⟨bv4, hr4, hfr4, hmv4⟩ := hst'
  have Hr4 := Lib.hid hr4; have Hfr4 := Lib.hid hfr4; have Hmv4 := Lib.hid hmv4; have Hf4 := Lib.hid hf4
  clear hst hr4 hfr4 hmv4 hf4
  have fin : ∀ (W w5 : World), Below w4.heap.size w4 W → RowStep W w5 g bv4 ((l ++ bitsN (headV (ofK n)).toNat (headN (ofK n)).toNat) ++ bitsN (waveV n).toNat (wideK (ofK n)).toNat) → RowStep w w5 g bv (l ++ waveBits n) := by
    intro W w5 hW h5
    rw [Hww.out, ← List.append_assoc]
    exact RowStep.trans Hr4.out Hfr4.out Hmv4.out (RowStep.behind Hr4.out hW (Nat.le_refl _) h5)
  have Hfin := Lib.hid fin; clear fin
  have hc : ofK n = 0 ∨ ofK n = 4 ∨ (0 < ofK n ∧ ofK n < 4) := by omega
  rcases hc with hc | hc | hc
  · have hv : waveV n = n % 18446744073709551616 := by unfold waveV; rw [if_pos (.inl hc)]
    have hw0 : wideK (ofK n) = 0 := by rw [hc]; rfl
    have Hv := Lib.hid hv; have Hw0 := Lib.hid hw0
    have hwz : ¬ (0 < wideK (ofK n)) := by omega
    have hwz' : decide (0 < wideK (ofK n)) = false := by simpa using hwz
    clear hv hw0 hc
    go_wp2_with fail
    rw [IntKind.wrap_u64, ← Hv.out]
    refine (put_any g bv4 _ _ _ w4 Hr4.out (by omega) (by omega) hm2 Hwv.out.1 Hwv.out.2).mono ?_
    rintro e w5 ⟨rfl, hst⟩
    have Hst := Lib.hid (Hfin.out w4 w5 (Below.refl _ _) hst); clear hst
    go_wp2
    go_ret
    exact ⟨rfl, Hst.out⟩
  · have hv : waveV n = n % 18446744073709551616 := by unfold waveV; rw [if_pos (.inr hc)]
    have hw0 : wideK (ofK n) = 64 := by rw [hc]; rfl
    have hd64 : 64 ≤ wideK (ofK n) := by omega
    have Hv := Lib.hid hv
    clear hv hw0 hc
    go_wp2_with fail
    rw [IntKind.wrap_u64, ← Hv.out]
    refine (put_any g bv4 _ _ _ w4 Hr4.out (by omega) (by omega) hm2 Hwv.out.1 Hwv.out.2).mono ?_
    rintro e w5 ⟨rfl, hst⟩
    have Hst := Lib.hid (Hfin.out w4 w5 (Below.refl _ _) hst); clear hst
    go_wp2
    go_ret
    exact ⟨rfl, Hst.out⟩
  · have hv : waveV n = n + (mostW (wideK (ofK n)) - 1) := by unfold waveV; rw [if_neg (by omega)]
    obtain ⟨m1, m2, m3, m4, m5⟩ := mid_facts n hc
    have hd1 : 0 < wideK (ofK n) := by omega
    have hd2 : wideK (ofK n) < 64 := by omega
    have Hv := Lib.hid hv; have Hm1 := Lib.hid m1
    clear hv hc m1
    go_wp2_with fail
    refine (most_any _ _ Hm1.out _).mono ?_
    rintro e w5 ⟨rfl, hb5⟩
    have hr5 := Hr4.out.below hb5 (Nat.le_refl _)
    have hf5 := Hf4.out.below hb5 Hf4.out.lt
    have u1 := hf5.cell 1
    simp only [List.getElem?_toArray, List.getElem?_cons_zero, List.getElem?_cons_succ] at u1
    have Hr5 := Lib.hid hr5; have Hb5 := Lib.hid hb5
    clear hr5 hb5 hf5
    go_wp2_with fail
    rw [← Hv.out]
    refine (put_any g bv4 _ _ _ w5 Hr5.out (by omega) (by omega) hm2 Hwv.out.1 Hwv.out.2).mono ?_
    rintro e w6 ⟨rfl, hst⟩
    have Hst := Lib.hid (Hfin.out w5 w6 Hb5.out hst); clear hst
    go_wp2
    go_ret
    exact ⟨rfl, Hst.out⟩
end Go.Proofs.YthgefobcohlegaaGreatDoor
