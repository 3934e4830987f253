/- package bits' Row by contracts: New, Put, Len, Room, Bytes: a row of bits as it lies in memory. -/
import Derived.Test.YtfkklcmepcocoaaGreatDoorProg
import Derived.Test.YtfkklcmepcocoaaGreatDoorBits
import Derived.BigRegion
namespace Go.Proofs.YtfkklcmepcocoaaGreatDoor
open Go.RowKit
set_option linter.unusedVariables false

theorem infoU8 : (Tryz.prog.info? 5).map (fun i => (i.zero, i.size, i.bytes)) = some (some (.int .u8 0), 1, 1) := by kernel_rfl

/-- Block g is a row of the bits l; its bytes are the slice bv. -/
def RowAt (w : World) (g : Nat) (bv : Value) (l : List Bool) : Prop :=
  Blk w g 242 #[bv, .int .i64 l.length] ∧ w.ownsRow g 5 1 bv (packN l).length ((packN l).map fun x : Nat => Value.int .u8 (x : Int))
/-- The blocks of a row. -/
def RowS (g : Nat) (bv : Value) (k : Nat) : Prop := k = g ∨ bv.ownBlock = some k
/-- Where a row's bytes may have gone: they stand where they stood, or in a new block. -/
def Mv (w : World) (bv bv' : Value) : Prop := bv'.ownBlock = bv.ownBlock ∨ ∃ k, bv'.ownBlock = some k ∧ w.heap.size ≤ k
theorem Mv.refl (w : World) (bv : Value) : Mv w bv bv := .inl rfl
theorem Mv.trans {w w1 : World} {a b c : Value} (h : Mv w a b) (k : Mv w1 b c) (hs : w.heap.size ≤ w1.heap.size) : Mv w a c := by
  rcases k with k | ⟨q, k1, k2⟩
  · rcases h with h | ⟨q, h1, h2⟩
    · exact .inl (k.trans h)
    · exact .inr ⟨q, k.trans h1, h2⟩
  · exact .inr ⟨q, k1, Nat.le_trans hs k2⟩
theorem RowS.of_mv {w : World} {g : Nat} {bv bv' : Value} (h : Mv w bv bv') : ∀ i, i < w.heap.size → RowS g bv' i → RowS g bv i := by
  intro i hi hs
  rcases hs with rfl | hs
  · exact .inl rfl
  · rcases h with h | ⟨k, h1, h2⟩
    · exact .inr (by rw [← h]; exact hs)
    · rw [hs] at h1; injection h1 with h1; omega
theorem RowAt.lt {w : World} {g : Nat} {bv : Value} {l : List Bool} (h : RowAt w g bv l) : g < w.heap.size := h.1.lt
theorem RowAt.below {w w' : World} {g B : Nat} {bv : Value} {l : List Bool} (h : RowAt w g bv l) (hb : Below B w w') (hB : w.heap.size ≤ B) : RowAt w' g bv l :=
  ⟨h.1.below hb (Nat.lt_of_lt_of_le h.lt hB), own_below h.2 hb hB⟩
theorem RowAt.alloc {w : World} {g : Nat} {bv : Value} {l : List Bool} (h : RowAt w g bv l) (o : Obj) : RowAt (w.alloc o) g bv l := ⟨h.1.alloc o, h.2.alloc o⟩
theorem RowAt.drew {w : World} {g : Nat} {bv : Value} {l : List Bool} (h : RowAt w g bv l) : RowAt w.drew g bv l := ⟨h.1, h.2⟩
theorem RowAt.drewN {w : World} {g : Nat} {bv : Value} {l : List Bool} (h : RowAt w g bv l) (n : Nat) : RowAt (w.drewN n) g bv l := ⟨h.1, h.2⟩
theorem RowAt.form {w : World} {g : Nat} {bv : Value} {l : List Bool} (h : RowAt w g bv l) : ∃ A c, bv = .slice A (packN l).length c := by
  obtain ⟨A, c, e, _⟩ := own_form h.2
  exact ⟨A, c, e⟩
theorem RowAt.facts {w : World} {g : Nat} {bv : Value} {l : List Bool} (h : RowAt w g bv l) :
    w.cell? ⟨g, 0, none⟩ = some bv ∧ w.cell? ⟨g, 1, none⟩ = some (.int .i64 l.length) ∧ w.frozen? ⟨g, 0, none⟩ = false ∧ w.frozen? ⟨g, 1, none⟩ = false :=
  ⟨h.1.cell 0, h.1.cell 1, h.1.frozen 0, h.1.frozen 1⟩

theorem new_any (w : World) : Calls Tryz.prog 123 #[] w fun e w' => e = .returned (.pointer (some ⟨w.heap.size, 0, none⟩)) ∧ w' = w.alloc (.cells #[.slice none 0 0, .int .i64 0] 242) := by
  go_enter Tryz.func123, Tryz.ntmps123
  go_wp2
  go_ret
  exact ⟨rfl, rfl⟩
theorem new_row (w : World) : RowAt (w.alloc (.cells #[.slice none 0 0, .int .i64 0] 242)) w.heap.size (.slice none 0 0) [] :=
  ⟨Blk.new _ _ _, World.ownsRow_nil _ _ _ _⟩
theorem room_any (g : Nat) (bv : Value) (l : List Bool) (n : Int) (w : World) (h : RowAt w g bv l) (hl : l.length ≤ 1048576) :
    Calls Tryz.prog 169 #[.pointer (some ⟨g, 0, none⟩), .int .i64 n] w fun e w' => e = .returned (.bool (decide (n ≤ 1048576 - (l.length : Int)))) ∧ w = w' := by
  obtain ⟨h0, h1, _, _⟩ := h.facts
  clear h
  go_enter Tryz.func169, Tryz.ntmps169
  go_wp2
  go_ret
  exact ⟨rfl, rfl⟩

/-! ### One bit more -/
section
variable {w : World} {g : Nat} {bv : Value} {l : List Bool}
theorem rowP_of (h : RowAt w g bv l) (hm : l.length % 8 ≠ 0) : w.ownsRow g 5 1 bv (packP l).length ((packP l).map fun x : Nat => Value.int .u8 (x : Int)) := by
  have e : packP l = packN l := by rw [packP_eq, if_neg hm]
  rw [e]; exact h.2
theorem u8_one (xs : List Nat) : ∀ u ∈ xs.map (fun x : Nat => Value.int .u8 (x : Int)), u.oneCell' = true := by
  intro u hu
  obtain ⟨x, _, rfl⟩ := List.mem_map.1 hu
  rfl
/-- A bit 0 behind: only the count has turned. -/
theorem bit_zero {n : Nat} (hn : n = (packP l).length) (hb : Blk w g 242 #[bv, .int .i64 l.length]) (ho : w.ownsRow g 5 1 bv n ((packP l).map fun x : Nat => Value.int .u8 (x : Int))) :
    RowAt (w.setCell ⟨g, 1, none⟩ (.int .i64 ((l.length : Int) + 1))) g bv (l ++ [false]) := by
  subst hn
  refine ⟨?_, ?_⟩
  · have := hb.set_ 1 (.int .i64 ((l.length : Int) + 1))
    have e : ((l ++ [false]).length : Int) = (l.length : Int) + 1 := by simp
    rw [e]; exact this
  · rw [packN_snoc_false]
    exact own_set ho (own_ne_blk ho hb (by decide)) _
/-- A bit 1 behind: its byte, and the count. -/
theorem bit_one {n b c : Nat} (hn : n = (packP l).length) (hb : Blk w g 242 #[.slice (some ⟨b, 0, none⟩) n c, .int .i64 l.length]) (ho : w.ownsRow g 5 1 (.slice (some ⟨b, 0, none⟩) n c) n ((packP l).map fun x : Nat => Value.int .u8 (x : Int))) :
    RowAt (((w.setCell ⟨b, l.length / 8, none⟩ (.int .u8 (byteAt (l ++ [true]) (l.length / 8) : Int))).drew).setCell ⟨g, 1, none⟩ (.int .i64 ((l.length : Int) + 1))) g (.slice (some ⟨b, 0, none⟩) n c) (l ++ [true]) := by
  subst hn
  have hne := own_ne_blk ho hb (by decide)
  have hne' : g ≠ b := by intro e; exact hne (by simp [Value.ownBlock, e])
  obtain ⟨ho2, _⟩ := ho.stored (l.length / 8) (.int .u8 (byteAt (l ++ [true]) (l.length / 8) : Int))
  have hb2 : Blk (w.setCell ⟨b, l.length / 8, none⟩ (.int .u8 (byteAt (l ++ [true]) (l.length / 8) : Int))).drew g 242 #[.slice (some ⟨b, 0, none⟩) (packP l).length c, .int .i64 l.length] := (hb.far hne' _).drew
  refine ⟨?_, ?_⟩
  · have := hb2.set_ 1 (.int .i64 ((l.length : Int) + 1))
    have e : ((l ++ [true]).length : Int) = (l.length : Int) + 1 := by simp
    rw [e]; exact this
  · have e : packN (l ++ [true]) = (packP l).set (l.length / 8) (byteAt (l ++ [true]) (l.length / 8)) := packN_snoc l true
    have e2 : (packN (l ++ [true])).length = (packP l).length := by rw [e, List.length_set]
    rw [e2, e, List.map_set]
    exact own_set (own_drew ho2) hne _
theorem Mv.at_ {w : World} {g b n c : Nat} {bv : Value} (h : Mv w bv (.slice (some ⟨b, 0, none⟩) n c)) : w.heap.size ≤ b ∨ RowS g bv b := by
  rcases h with h | ⟨k, h1, h2⟩
  · exact .inr (.inr (by rw [← h]; rfl))
  · have : b = k := by simpa [Value.ownBlock] using h1
    subst this; exact .inl h2
/-- Behind the append of one byte more. -/
theorem appended {wa : World} {v' : Value} (h : RowAt w g bv l) (h8 : l.length % 8 = 0) (hown : wa.ownsRow g 5 1 v' ((packN l).length + 1) ((packN l).map (fun x : Nat => Value.int .u8 (x : Int)) ++ [.int .u8 0]))
    (hgr : (w.alloc (.cells #[.int .u8 0] 5)).grownBy wa bv.ownBlock) (hat : v'.ownBlock = bv.ownBlock ∨ v'.ownBlock = some (w.alloc (.cells #[.int .u8 0] 5)).heap.size) :
    ∃ b c, v' = .slice (some ⟨b, 0, none⟩) ((packN l).length + 1) c ∧ ¬ g = b ∧ ¬ b = g ∧ Mv w bv v' ∧ Blk wa g 242 #[bv, .int .i64 l.length] ∧
      wa.ownsRow g 5 1 v' ((packN l).length + 1) ((packP l).map fun x : Nat => Value.int .u8 (x : Int)) ∧ (packN l).length + 1 = (packP l).length ∧ g < wa.heap.size := by
  obtain ⟨b, c, rfl, h1, h2⟩ := own_some hown (by omega)
  have hB : Blk wa g 242 #[bv, .int .i64 l.length] := (h.1.alloc (.cells #[.int .u8 0] 5)).grown hgr (own_ne_blk (h.2.alloc (.cells #[.int .u8 0] 5)) (h.1.alloc (.cells #[.int .u8 0] 5)) (by decide))
  have hne := own_ne_blk hown hB (by decide)
  have e : packP l = packN l ++ [0] := by rw [packP_eq, if_pos h8]
  refine ⟨b, c, rfl, fun e => hne (by simp [Value.ownBlock, e]), fun e => hne (by simp [Value.ownBlock, e]), ?_, hB, ?_, by rw [e]; simp, hB.lt⟩
  · rcases hat with hat | hat
    · exact .inl hat
    · exact .inr ⟨_, hat, by simp⟩
  · rw [e]; simpa using hown
end

set_option maxRecDepth 100000 in
set_option maxHeartbeats 4000000 in
theorem put_nat (g : Nat) (bv : Value) (l : List Bool) (v n : Nat) (w : World) (h : RowAt w g bv l) (hn : n ≤ 64) (hm : l.length + n ≤ 1048576) (hv : v < 18446744073709551616) :
    Calls Tryz.prog 125 #[.pointer (some ⟨g, 0, none⟩), .int .u64 (v : Int), .int .i64 (n : Int)] w fun e w' => e = .returned .nilIface ∧
      ∃ bv', RowAt w' g bv' (l ++ bitsN v n) ∧ Fr (RowS g bv) w w' ∧ Mv w bv bv' := by
  obtain ⟨i0, hi, hz0, hz1, hz2⟩ := info_parts infoU8
  have Hi := Lib.hid hi; have Hz0 := Lib.hid hz0; have Hz1 := Lib.hid hz1; have Hz2 := Lib.hid hz2
  clear hi hz0 hz1 hz2
  obtain ⟨h0, h1, f0, f1⟩ := h.facts
  obtain ⟨A0, c0, rfl⟩ := h.form
  have H := Lib.hid h
  have hn' : (n : Int) ≤ 64 := by omega
  have hm' : (l.length : Int) + n ≤ 1048576 := by omega
  clear h
  go_enter Tryz.func125, Tryz.ntmps125
  go_wp2
  go_loopw [7] (fun i wr => ∃ (j : Nat) (x : Int) (bv1 : Value), i = .int .i64 x ∧ x + 1 = (j : Int) ∧ j ≤ n ∧ RowAt wr g bv1 (l ++ (bitsN v n).take (n - j)) ∧ Fr (RowS g (.slice A0 (packN l).length c0)) w wr ∧ Mv w (.slice A0 (packN l).length c0) bv1) (fun i _ => (intOf i + 1).toNat)
  case atStart =>
    refine ⟨n, (n : Int) - 1, _, rfl, by omega, Nat.le_refl _, ?_, Fr.refl _ _, Mv.refl _ _⟩
    rw [Nat.sub_self, List.take_zero, List.append_nil]; exact H.out
  case round =>
    obtain ⟨j, x, bv1, rfl, hx, hj, hrow, hfr, hmv⟩ := hrel
    clear h0 h1 f0 f1
    by_cases hj0 : j = 0
    · subst hj0
      have hx' : x < 0 := by omega
      have e : (bitsN v n).take (n - 0) = bitsN v n := List.take_of_length_le (by rw [bitsN_len]; omega)
      rw [e] at hrow
      have Hrow := Lib.hid hrow; have Hfr := Lib.hid hfr; have Hmv := Lib.hid hmv; have He := Lib.hid e
      clear hrow hfr hmv e hx
      go_wp2
      go_ret
      exact ⟨rfl, bv1, Hrow.out, Hfr.out, Hmv.out⟩
    · obtain ⟨i, rfl⟩ : ∃ i : Nat, x = (i : Int) := ⟨x.toNat, by omega⟩
      obtain rfl : j = i + 1 := by omega
      have hl : (l ++ (bitsN v n).take (n - (i + 1))).length = l.length + n - (i + 1) := by rw [List.length_append, List.length_take, bitsN_len]; omega
      have hnext : l ++ (bitsN v n).take (n - i) = (l ++ (bitsN v n).take (n - (i + 1))) ++ [v.testBit i] := by
        have e1 : n - i = (n - (i + 1)) + 1 := by omega
        rw [e1, bitsN_take v n _ (by omega), List.append_assoc]
        have e2 : n - 1 - (n - (i + 1)) = i := by omega
        rw [e2]
      obtain ⟨g0, g1, q0, q1⟩ := hrow.facts
      generalize hl' : l ++ (bitsN v n).take (n - (i + 1)) = l' at hl hnext hrow g1
      have Hnext := Lib.hid hnext; have Hl := Lib.hid hl; have Hl' := Lib.hid hl'; have Hfr := Lib.hid hfr; have Hmv := Lib.hid hmv
      have hlm : (l'.length : Int) < 1048576 := by omega
      have hi64 : i < 64 := by omega
      clear hnext hl hl' hfr hmv hx hj0
      have hbt := bit_test v i hv
      by_cases h8 : l'.length % 8 = 0
      · have h8' : (((l'.length : Int) % 8) == 0) = true := by rw [beq_iff_eq]; omega
        have hrd : Rd (wr.alloc (.cells #[.int .u8 0] 5)) (wr.alloc (.cells #[.int .u8 0] 5)).heap.size 1 (some ⟨wr.heap.size, 0, none⟩) 1 [.int .u8 0] :=
          ⟨rfl, fun _ => ⟨_, _, rfl, by simp, fun j u hu => by rw [Nat.zero_add, (Blk.new wr _ _).cell]; simpa using hu⟩⟩
        have hpl := packN_len l'
        have hb0 : (packN l').length + 1 ≤ maxLen := by unfold maxLen; omega
        have hb1 : ((packN l').length + 1) * 1 ≤ 140737488355328 := by omega
        have hb2 : g ≤ (wr.alloc (.cells #[.int .u8 0] 5)).heap.size := by have := hrow.lt; simp; omega
        have hlen2 : (l'.length : Int) / 8 < ((packN l').length : Int) + 1 := by omega
        have hor := or_bit l'
        have Hrow := Lib.hid hrow; have H8 := Lib.hid h8; have Hpl := Lib.hid hpl; have Hor := Lib.hid hor; have Hrd := Lib.hid hrd
        have rest : ∀ (wa : World) (v' : Value), wa.ownsRow g 5 1 v' ((packN l').length + 1) ((packN l').map (fun x : Nat => Value.int .u8 (x : Int)) ++ [.int .u8 0]) → (wr.alloc (.cells #[.int .u8 0] 5)).grownBy wa bv1.ownBlock →
            (v'.ownBlock = bv1.ownBlock ∨ v'.ownBlock = some (wr.alloc (.cells #[.int .u8 0] 5)).heap.size) →
            ∃ b c, v' = .slice (some ⟨b, 0, none⟩) ((packN l').length + 1) c ∧ ¬ g = b ∧ ¬ b = g ∧ Hid (Mv w (.slice A0 (packN l).length c0) v') ∧ Hid (Blk wa g 242 #[bv1, .int .i64 l'.length]) ∧
              Hid (wa.ownsRow g 5 1 v' ((packN l').length + 1) ((packP l').map fun x : Nat => Value.int .u8 (x : Int))) ∧ Hid ((packN l').length + 1 = (packP l').length) ∧ g < wa.heap.size ∧ Hid (Fr (RowS g (.slice A0 (packN l).length c0)) w wa) ∧
              wa.cell? ⟨g, 0, none⟩ = some bv1 ∧ wa.cell? ⟨g, 1, none⟩ = some (.int .i64 l'.length) ∧ wa.frozen? ⟨g, 0, none⟩ = false ∧ wa.frozen? ⟨g, 1, none⟩ = false ∧
              wa.cell? ⟨b, l'.length / 8, none⟩ = some (.int .u8 (byteAt l' (l'.length / 8) : Int)) ∧ wa.frozen? ⟨b, l'.length / 8, none⟩ = false := by
          intro wa v' h1 h2 h3
          obtain ⟨b, c, rfl, q1, q2, q3, q4, q5, q6, q7⟩ := appended Hrow.out H8.out h1 h2 h3
          have q5' := q5
          have hx := q5.cellAt (l'.length / 8) (by have := packP_len l'; omega)
          rw [List.getElem?_map, packP_get] at hx
          refine ⟨b, c, rfl, q1, q2, Mv.trans Hmv.out q3 Hfr.out.size, q4, q5', q6, q7, ?_, q4.cell 0, q4.cell 1, q4.frozen 0, q4.frozen 1, hx, q5.frozenAt _⟩
          refine Fr.grown (Hfr.out.alloc _) h2 (fun k hk => ?_)
          rcases Hmv.out with hm | ⟨k', m1, m2⟩
          · exact .inr (.inr (by rw [← hm]; exact hk))
          · rw [hk] at m1; injection m1 with m1; exact .inl (by omega)
        have Hrest := Lib.hid rest
        clear hrow h8 hpl hor hrd rest
        cases hbv : v.testBit i
        · rw [hbv] at hbt
          have Hbv := Lib.hid hbv
          clear hbv
          go_wp2_with (at_builtin; refine wpList_append_rd _ rfl (.tmp 39) (.tmp 40) _ rfl g 5 i0 (.int .u8 0) 1 1 Tryz.underlying111 Hi.out Hz0.out Hz1.out Hz2.out rfl (by decide) bv1 _ _ rfl (Hrow.out.2.alloc _) _ _ 1 1 [.int .u8 0] rfl Hrd.out (by intro u hu; simp at hu; subst hu; rfl) hb0 hb1 hb2 ?_; intro v' wa hown' hgr hat; obtain ⟨b, c, rfl, hne1, hne2, Hmv2, HB, HP, HPL, hgz, Hfr2, k0, k1, k2, k3, k4, k5⟩ := Hrest.out wa v' hown' hgr hat; clear hown' hgr hat)
          refine ⟨⟨i, (i : Int) - 1, _, rfl, by omega, by omega, ?_, ?_, Hmv2.out⟩, by simp [intOf]⟩
          · rw [Hnext.out, Hbv.out]
            have hB2 := HB.out.set_ 0 (.slice (some ⟨b, 0, none⟩) ((packN l').length + 1) c)
            exact bit_zero HPL.out hB2 (own_set HP.out (own_ne_blk HP.out HB.out (by decide)) _)
          · exact (Hfr2.out.setCell (.inr (.inl rfl)) _).setCell (.inr (.inl rfl)) _
        · rw [hbv] at hbt
          have Hbv := Lib.hid hbv
          clear hbv
          go_wp2_with (at_builtin; refine wpList_append_rd _ rfl (.tmp 39) (.tmp 40) _ rfl g 5 i0 (.int .u8 0) 1 1 Tryz.underlying111 Hi.out Hz0.out Hz1.out Hz2.out rfl (by decide) bv1 _ _ rfl (Hrow.out.2.alloc _) _ _ 1 1 [.int .u8 0] rfl Hrd.out (by intro u hu; simp at hu; subst hu; rfl) hb0 hb1 hb2 ?_; intro v' wa hown' hgr hat; obtain ⟨b, c, rfl, hne1, hne2, Hmv2, HB, HP, HPL, hgz, Hfr2, k0, k1, k2, k3, k4, k5⟩ := Hrest.out wa v' hown' hgr hat; clear hown' hgr hat)
          go_region
          go_wp2
          refine ⟨⟨i, (i : Int) - 1, _, rfl, by omega, by omega, ?_, ?_, Hmv2.out⟩, by simp [intOf]⟩
          · rw [Hnext.out, Hbv.out, Hor.out]
            have hB2 := HB.out.set_ 0 (.slice (some ⟨b, 0, none⟩) ((packN l').length + 1) c)
            exact bit_one HPL.out hB2 (own_set HP.out (own_ne_blk HP.out HB.out (by decide)) _)
          · exact (Fr.drew ((Hfr2.out.setCell (.inr (.inl rfl)) _).setCell Hmv2.out.at_ _)).setCell (.inr (.inl rfl)) _
      · have h8' : (((l'.length : Int) % 8) == 0) = false := by rw [beq_eq_false_iff_ne]; omega
        have hP := rowP_of hrow h8
        have hpl := packP_len l'
        obtain ⟨b, c, rfl, hgb, hbz⟩ := own_some hP (by omega)
        have hB := hrow.1
        have hne := own_ne_blk hP hB (by decide)
        have hne1 : ¬ g = b := by intro e; exact hne (by simp [Value.ownBlock, e])
        have hne2 : ¬ b = g := fun e => hne1 e.symm
        have hx := hP.cellAt (l'.length / 8) (by omega)
        rw [List.getElem?_map, packP_get] at hx
        have fx := hP.frozenAt (l'.length / 8)
        simp only [Option.map_some] at hx
        have hor := or_bit l'
        have hlen2 : (l'.length : Int) / 8 < ((packP l').length : Int) := by omega
        have HP := Lib.hid hP; have HB := Lib.hid hB; have Hrow := Lib.hid hrow; have H8 := Lib.hid h8; have Hpl := Lib.hid hpl; have Hor := Lib.hid hor; have Hne := Lib.hid hne
        clear hP hB hrow h8 hpl hor hne
        cases hbv : v.testBit i
        · rw [hbv] at hbt
          have Hbv := Lib.hid hbv
          clear hbv
          go_wp2
          refine ⟨⟨i, (i : Int) - 1, _, rfl, by omega, by omega, ?_, Hfr.out.setCell (.inr (.inl rfl)) _, Hmv.out⟩, by simp [intOf]⟩
          rw [Hnext.out, Hbv.out]
          exact bit_zero rfl HB.out HP.out
        · rw [hbv] at hbt
          have Hbv := Lib.hid hbv
          clear hbv
          go_wp2
          go_region
          go_wp2
          refine ⟨⟨i, (i : Int) - 1, _, rfl, by omega, by omega, ?_, (Fr.drew (Hfr.out.setCell Hmv.out.at_ _)).setCell (.inr (.inl rfl)) _, Hmv.out⟩, by simp [intOf]⟩
          rw [Hnext.out, Hbv.out, Hor.out]
          exact bit_one rfl HB.out HP.out
end Go.Proofs.YtfkklcmepcocoaaGreatDoor
