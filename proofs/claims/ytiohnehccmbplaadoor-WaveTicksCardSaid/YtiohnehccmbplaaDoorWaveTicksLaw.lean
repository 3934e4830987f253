/- The walk of the law WaveTicks: it returns true, whatever ticks and pieces are handed over. -/
import Derived.Test.YtiohnehccmbplaaDoorTicksRef
import Derived.Test.YtiohnehccmbplaaDoorTicksRf
import Derived.Test.YtiohnehccmbplaaDoorWaved
import Derived.Test.YtiohnehccmbplaaDoorPieces
import Derived.Test.YtiohnehccmbplaaDoorSame
import Derived.Test.YtiohnehccmbplaaDoorReader
namespace Go.Proofs.YtiohnehccmbplaaDoor
open Go.RowKit
set_option linter.unusedVariables false

theorem first_bad (l : List Int) : (∀ t ∈ l, Tick t) ∨ ∃ (i : Nat) (y : Int), l[i]? = some y ∧ ¬ Tick y ∧ ∀ (j : Nat) (z : Int), j < i → l[j]? = some z → Tick z := by
  induction l with
  | nil => exact .inl (by simp)
  | cons a l ih =>
    by_cases ha : Tick a
    · rcases ih with h | ⟨i, y, h1, h2, h3⟩
      · exact .inl (fun t ht => by rcases List.mem_cons.1 ht with rfl | ht; exact ha; exact h t ht)
      · refine .inr ⟨i + 1, y, by simpa using h1, h2, fun j z hj hz => ?_⟩
        cases j with
        | zero => simp at hz; subst hz; exact ha
        | succ j => exact h3 j z (by omega) (by simpa using hz)
    · exact .inr ⟨0, a, rfl, ha, fun j z hj => by omega⟩
theorem ticksBits_len (l : List Int) : (ticksBits l).length ≤ 68 * l.length := by
  have h : ∀ s : List Int, (wavesL s).length ≤ 68 * s.length := by
    intro s
    induction s with
    | nil => simp [wavesL]
    | cons a s ih =>
      have e : wavesL (a :: s) = waveBits a ++ wavesL s := by simp [wavesL]
      have h1 := waveBits_len a
      have h2 := sizeN_bd a
      rw [e, List.length_append, List.length_cons]; omega
  have := h (stepsL l)
  rw [stepsL_len] at this; exact this
theorem take_getD {l : List Int} {k i : Nat} (h : i < k) : (l.take k).getD i 0 = l.getD i 0 := by
  rw [List.getD_eq_getElem?_getD, List.getD_eq_getElem?_getD, List.getElem?_take, if_pos h]
theorem tNext_step {l : List Int} {k : Nat} (hk : k < l.length) : tNext (l.take k) (stepAt l k) = l.getD k 0 := by
  have hl : (l.take k).length = k := by rw [List.length_take]; omega
  unfold tNext stepAt
  rw [hl]
  split
  · rename_i h; rw [h]
  · split
    · rename_i h; rw [take_getD (by omega), h]; omega
    · rw [take_getD (by omega), take_getD (by omega)]; omega
theorem wavesL_at {s : List Int} {k : Nat} {y : Int} (h : s[k]? = some y) : wavesL s = wavesL (s.take k) ++ (waveBits y ++ wavesL (s.drop (k + 1))) := by
  have hk : k < s.length := (List.getElem?_eq_some_iff.1 h).1
  have e : s = s.take k ++ (y :: s.drop (k + 1)) := by
    have : s.drop k = y :: s.drop (k + 1) := by
      rw [List.drop_eq_getElem_cons hk]; congr 1; exact (List.getElem?_eq_some_iff.1 h).2
    rw [← this, List.take_append_drop]
  conv => lhs; rw [e]
  simp [wavesL]
theorem rdT_ticks (l : List Int) (hl : ∀ t ∈ l, Tick t) : rdT (ticksBits l) l.length [] 0 = .ok l (ticksBits l).length := by
  have key : ∀ (d k : Nat), k + d = l.length → rdT (ticksBits l) d (l.take k) (wavesL ((stepsL l).take k)).length = .ok l (ticksBits l).length := by
    intro d
    induction d with
    | zero =>
      intro k hk
      have e1 : l.take k = l := List.take_of_length_le (by omega)
      have e2 : (stepsL l).take k = stepsL l := List.take_of_length_le (by rw [stepsL_len]; omega)
      rw [e1, e2]; rfl
    | succ d ih =>
      intro k hk
      have hkl : k < l.length := by omega
      have hst := stepsL_get l k hkl
      have hr := stepAt_range l hl k
      have hgw : getW (ticksBits l) (wavesL ((stepsL l).take k)).length = .ok (stepAt l k) (sizeN (stepAt l k)).toNat := by
        unfold ticksBits
        rw [wavesL_at hst]
        exact getW_wave _ _ _ (by omega)
      have hget : l[k]? = some (l.getD k 0) := by rw [List.getD_eq_getElem?_getD, List.getElem?_eq_getElem hkl]; rfl
      obtain ⟨t0, t1⟩ := hl _ (List.mem_of_getElem? hget)
      have htn := tNext_step hkl
      rw [rdT_next hgw (by intro h; exact h.2 (by omega)) (by rw [htn]; exact ⟨t0, t1⟩), htn, ← take_snoc hget]
      have hlen : (wavesL ((stepsL l).take k)).length + (sizeN (stepAt l k)).toNat = (wavesL ((stepsL l).take (k + 1))).length := by
        have := waveBits_len (stepAt l k)
        rw [wavesL_next hst, List.length_append]; omega
      rw [hlen]
      exact ih (k + 1) (by omega)
  have := key l.length 0 (by omega)
  simpa [wavesL] using this
theorem rdT_err {S : List Bool} : ∀ (n : Nat) (acc : List Int) (q c : Nat), rdT S n acc q = .err c → c = 0 ∨ c = 1 ∨ c = 4 := by
  intro n
  induction n with
  | zero => intro acc q c h; cases h
  | succ n ih =>
    intro acc q c h
    simp only [rdT] at h
    split at h
    · injection h with h; omega
    · injection h with h; omega
    · split at h
      · injection h with h; omega
      · split at h
        · exact ih _ _ _ h
        · injection h with h; omega
theorem rdT_ok_len {S : List Bool} : ∀ (n : Nat) (acc : List Int) (q : Nat) (l : List Int) (p : Nat), rdT S n acc q = .ok l p → l.length = acc.length + n := by
  intro n
  induction n with
  | zero => intro acc q l p h; injection h with h1 h2; subst h1; rfl
  | succ n ih =>
    intro acc q l p h
    simp only [rdT] at h
    split at h
    · cases h
    · cases h
    · split at h
      · cases h
      · split at h
        · have := ih _ _ _ _ h; rw [List.length_append, List.length_singleton] at this; omega
        · cases h
theorem fcode_2 : (decide ((((1 : Nat) : Int) + 1) = 2) && decide ((-1 : Int) = -1)) = true := by decide
theorem fcode_0 : (decide ((0 : Int) = 0) && decide ((-1 : Int) = -1)) = true := by decide
theorem fcode_s (n : Int) : (decide (n = n) && decide ((-1 : Int) = -1)) = true := by simp
theorem Blk.two {w : World} {b : Nat} {t : TypeId} {v1 v2 : Value} (h : Blk w b t #[v1, v2]) : w.cell? ⟨b, 0, none⟩ = some v1 ∧ w.cell? ⟨b, 1, none⟩ = some v2 := ⟨h.cell 0, h.cell 1⟩
theorem keep2c {B : Nat} {w w' : World} {b : Nat} {v1 v2 : Value} (hb : Below B w w') (h1 : b < B) (h : w.cell? ⟨b, 0, none⟩ = some v1 ∧ w.cell? ⟨b, 1, none⟩ = some v2) : w'.cell? ⟨b, 0, none⟩ = some v1 ∧ w'.cell? ⟨b, 1, none⟩ = some v2 := by
  rw [hb.cell (p := ⟨b, 0, none⟩) h1, hb.cell (p := ⟨b, 1, none⟩) h1]; exact h

set_option maxRecDepth 100000 in
set_option maxHeartbeats 8000000 in
theorem waveTicks_law {es : Nat → Addr} {B : Nat} (A : Option Addr) (n c : Nat) (xs : List Int) (A' : Option Addr) (n' c' : Nat) (ps : List (Int × Int)) (N : Int) (w : World) (hS : Sents es B w) (hB0 : B ≤ w.heap.size)
    (hA : Rd w w.heap.size 1 A n (xs.map (Value.int .i64))) (hn : n ≤ 140737488351232) (hxs : ∀ x ∈ xs, -9223372036854775808 ≤ x ∧ x ≤ 9223372036854775807) (hA' : Rd w w.heap.size 2 A' n' (pcC ps)) (hn' : n' ≤ 140737488351232)
    (hps : ∀ p ∈ ps, 0 ≤ p.1 ∧ p.1 < 18446744073709551616) (hN : -9223372036854775808 ≤ N ∧ N ≤ 9223372036854775807) :
    Calls Tryd.prog 9 #[.slice A n c, .slice A' n' c', .int .i64 N] w fun e w' => e = .returned (.bool true) ∧ Below w.heap.size w w' := by
  have hlen : xs.length = n := by have := hA.1; simp at this; omega
  by_cases q1 : 150 < n
  · have q1' : (150 : Int) < n := by omega
    clear hA hA' hlen hps hS hxs
    go_enter Tryd.func9, Tryd.ntmps9
    go_wp2_with (go_at_call 14; refine (waved_any _).mono ?_; rintro e w1 ⟨rfl, hb1⟩; have hb1 := Lib.hid hb1)
    go_ret
    exact ⟨rfl, hb1.out⟩
  by_cases q2 : 30 < n'
  · have q1' : (n : Int) ≤ 150 := by omega
    have q2' : (30 : Int) < n' := by omega
    clear hA hA' hlen hps hS hxs
    go_enter Tryd.func9, Tryd.ntmps9
    go_wp2_with (go_at_call 14; refine (waved_any _).mono ?_; rintro e w1 ⟨rfl, hb1⟩; have hb1 := Lib.hid hb1)
    go_ret
    exact ⟨rfl, hb1.out⟩
  have q1' : (n : Int) ≤ 150 := by omega
  have q2' : (n' : Int) ≤ 30 := by omega
  obtain ⟨hN1, hN2⟩ := hN
  have HS := Lib.hid hS; have HA := Lib.hid hA; have HA' := Lib.hid hA'; have Hlen := Lib.hid hlen; have Hps := Lib.hid hps
  clear hS hA hA' hlen hps hxs
  go_enter Tryd.func9, Tryd.ntmps9
  go_wp2_with fail
  refine (waved_any _).mono ?_
  rintro e w1 ⟨rfl, hb⟩
  have hB1 := Lib.hid hb; clear hb
  go_wp2_with fail
  refine (new_any _).mono ?_
  rintro e w2 ⟨rfl, hw2⟩
  have hr2 : RowAt w2 w1.heap.size (.slice none 0 0) [] := by rw [hw2]; exact new_row w1
  have hB2 := Lib.hid (show Below w.heap.size w w2 by rw [hw2]; exact Below.alloc hB1.out hB1.out.size _)
  have hg : w.heap.size ≤ w1.heap.size := hB1.out.size
  generalize hgg : w1.heap.size = g at hr2 hg
  have Hr2 := Lib.hid hr2
  clear hw2 hr2 hgg hB1
  rcases first_bad xs with hall | ⟨ib, yb, hb1, hb2, hb3⟩
  case' inl =>
    have hLl := ticksBits_len xs
    rw [Hlen.out] at hLl
    obtain ⟨L, hL⟩ : ∃ L, L = ticksBits xs := ⟨_, rfl⟩
    have hL4 : L.length ≤ 10200 := by rw [hL]; omega
    have hrt : rdT L n [] 0 = .ok xs L.length := by rw [hL, ← Hlen.out]; exact rdT_ticks xs hall
    have hroom : ([] : List Bool).length + (ticksBits xs).length ≤ 1048576 := by rw [← hL]; simp; omega
    have hsz : (txt L).size = L.length := txt_size L
    have Hall := Lib.hid hall; have HL := Lib.hid hL; have Hrt := Lib.hid hrt; have Hroom := Lib.hid hroom
    clear hall hLl hL hrt hroom
    go_wp2_with fail
    refine (ticksFault_ok A n c xs _ ((HA.out.below hB2.out).more hB2.out.size) (by omega) Hall.out).mono ?_
    rintro e w3 ⟨rfl, hb⟩
    have hB3 := Lib.hid (Below.call hB2.out hb hB2.out.size)
    have Hr3 := Lib.hid (Hr2.out.below hb (Nat.le_refl _))
    have hw3 : w.heap.size ≤ w3.heap.size := hB3.out.size
    have HF4 := Lib.hid (Blk.new w3 81 #[.int .i64 0, .int .i64 (-1)])
    have hB4 := Lib.hid (show Below w.heap.size w (w3.alloc (.cells #[.int .i64 0, .int .i64 (-1)] 81)) from Below.alloc hB3.out hw3 _)
    have Hr4 := Lib.hid (Hr3.out.alloc (.cells #[.int .i64 0, .int .i64 (-1)] 81))
    clear hb
    go_wp2_with fail
    refine (ticksOf_any A n c xs _ ((HA.out.below hB4.out).more hB4.out.size) (by omega) Hall.out).mono ?_
    rintro e w5 ⟨rfl, hb⟩
    rw [← HL.out]
    have HF5 := Lib.hid (show Blk w5.drew w3.heap.size 81 #[.int .i64 0, .int .i64 (-1)] from (HF4.out.below hb (by simp)).drew)
    have hB5 := Lib.hid (show Below w.heap.size w w5.drew from (Below.call hB4.out hb hB4.out.size).drew)
    have Hr5 := Lib.hid (show RowAt w5.drew g (.slice none 0 0) [] from (Hr4.out.below hb (Nat.le_refl _)).drew)
    have hS5 := Lib.hid (HF5.out.two)
    clear hb
    go_wp2_with fail
    go_region_held3 (fun w' => w'.cell? ⟨w3.heap.size, 0, none⟩ = some (.int .i64 0) ∧ w'.cell? ⟨w3.heap.size, 1, none⟩ = some (.int .i64 (-1)))
        (first | with_reducible exact hS5.out | with_reducible exact hS6.out | with_reducible exact hS7.out | with_reducible exact hS8.out)
        (first
          | (go_at_call 17; refine (ticks_ok g _ [] A n c xs _ Hr5.out ((HA.out.below hB5.out).more hB5.out.size) (by omega) Hall.out Hroom.out).mono ?_; rintro e w6 ⟨rfl, hst⟩; have HF6 := Lib.hid (hst.blk Hr5.out HF5.out (by decide) (by decide)); have hS6 := Lib.hid (HF6.out.two); have hB6 := Lib.hid (Below.trans hB5.out (hst.below Hr5.out hg)); obtain ⟨bv6, hr6, _, _⟩ := hst; rw [List.nil_append, ← HL.out] at hr6; have Hr6 := Lib.hid hr6; clear hr6)
          | (go_at_call 49; refine (faulted_any .nilIface 0 (-1) 0 (-1) _ (HS.out.below hB6.out hB0) (Nat.le_trans hB0 hB6.out.size) ErrIs.nil rfl (.inl rfl)).mono ?_; rintro e w7 ⟨rfl, hb7⟩; have HF7 := Lib.hid (HF6.out.below hb7 HF6.out.lt); have hS7 := Lib.hid (HF7.out.two); have hB7 := Lib.hid (Below.call hB6.out hb7 hB6.out.size); have Hr7 := Lib.hid (Hr6.out.below hb7 (Nat.le_refl _)); clear hb7)
          | (go_at_call 18; refine (len_any g bv6 L _ Hr7.out).mono ?_; rintro e w' ⟨rfl, rfl⟩)
          | (go_at_call 36; refine (bytes_any g bv6 L _ Hr7.out).mono ?_; rintro e w' ⟨rfl, rfl⟩)
          | (go_at_call 35; refine (pack_any L (by first | omega | simp) _).mono ?_; rintro e w8 ⟨rfl, hb8⟩; have HF8 := Lib.hid (HF7.out.below hb8 HF7.out.lt); have hS8 := Lib.hid (HF8.out.two); have hB8 := Lib.hid (Below.call hB7.out hb8 hB7.out.size); clear hb8))
    have z0 := HF8.out.cell 0
    simp only [List.getElem?_toArray, List.getElem?_cons_zero] at z0
    by_cases h120 : n ≤ 120
    case' pos =>
      have h120' : (n : Int) ≤ 120 := by omega
      go_wp2_with fail
      refine (openBits_any L (by omega) _).mono ?_
      rintro e w9 ⟨g2, rfl, hg2, hrd, hb9⟩
      have hB9 := Lib.hid (Below.call hB8.out hb9 hB8.out.size)
      have hg3 : w.heap.size ≤ g2 := Nat.le_trans hB8.out.size hg2
      have Hrd9 := Lib.hid hrd
      clear hb9 hrd hg2 z0
      go_wp2_with fail
      refine (read_any g2 0 L.length (packN L) n _ (HS.out.below hB9.out hB0) (Nat.le_trans hB0 hB9.out.size) (Nat.le_trans hB0 hg3) Hrd9.out h120).mono ?_
      rintro e w10 ⟨_, hok, hf⟩
      obtain ⟨v10, rfl, hown, hrd⟩ := hok xs L.length (by rw [rbits_pack]; exact Hrt.out)
      obtain ⟨A10, c10, rfl, _, _, hr10⟩ := own_form hown
      have hB10 := Lib.hid (Below.trans hB9.out (hf.below hB9.out.size (fun k hk hs => by omega)))
      have Hr10 := Lib.hid hr10; have Hrd10 := Lib.hid hrd
      clear hok hf hown hr10 hrd
      go_wp2_with fail
      refine (sameInts_eq A10 n c10 A c xs _ Hr10.out ((HA.out.below hB10.out).more hB10.out.size) (by omega)).mono ?_
      rintro e w11 ⟨rfl, hb11⟩
      have hB11 := Lib.hid (Below.call hB10.out hb11 hB10.out.size)
      have Hrd11 := Lib.hid (Hrd10.out.below hb11 (Nat.le_refl _))
      clear hb11
      go_wp2_with fail
      refine (left_any g2 L.length L.length (packN L) _ Hrd11.out).mono ?_
      rintro e w12 ⟨rfl, hb12⟩
      have hBZ := Lib.hid (Below.call hB11.out hb12 hB11.out.size)
      clear hb12 hsz
      go_wp2
    case' neg =>
      have h120' : (120 : Int) < n := by omega
      have hBZ := hB8
      clear hsz
      go_wp2
  case' inr =>
    have Hbd1 := Lib.hid hb1; have Hbd2 := Lib.hid hb2; have Hbd3 := Lib.hid hb3
    clear hb1 hb2 hb3
    go_wp2_with fail
    refine (ticksFault_bad A n c xs ib yb _ ((HA.out.below hB2.out).more hB2.out.size) (by omega) Hbd1.out Hbd2.out Hbd3.out).mono ?_
    rintro e w3 ⟨rfl, hb⟩
    have hB3 := Lib.hid (Below.call hB2.out hb hB2.out.size)
    have Hr3 := Lib.hid (Hr2.out.below hb (Nat.le_refl _))
    have hw3 : w.heap.size ≤ w3.heap.size := hB3.out.size
    have HF5 := Lib.hid (show Blk (w3.alloc (.cells #[.int .i64 2, .int .i64 ib] 81)).drew w3.heap.size 81 #[.int .i64 2, .int .i64 ib] from (Blk.new w3 _ _).drew)
    have hB5 := Lib.hid (show Below w.heap.size w (w3.alloc (.cells #[.int .i64 2, .int .i64 ib] 81)).drew from (Below.alloc hB3.out hw3 _).drew)
    have Hr5 := Lib.hid (show RowAt (w3.alloc (.cells #[.int .i64 2, .int .i64 ib] 81)).drew g (.slice none 0 0) [] from (Hr3.out.alloc _).drew)
    have hS5 := Lib.hid (HF5.out.two)
    have Hte := Lib.hid (show txt [] = ByteArray.empty from rfl)
    have bv6 : Value := .slice none 0 0
    clear hb bv6
    go_wp2_with fail
    go_region_held3 (fun w' => w'.cell? ⟨w3.heap.size, 0, none⟩ = some (.int .i64 2) ∧ w'.cell? ⟨w3.heap.size, 1, none⟩ = some (.int .i64 ib))
        (first | with_reducible exact hS5.out | with_reducible exact hS6.out | with_reducible exact hS7.out | with_reducible exact hS8.out)
        (first
          | (go_at_call 17; refine (ticks_bad g A n c xs ib yb _ (HS.out.below hB5.out hB0) ((HA.out.below hB5.out).more hB5.out.size) (by omega) Hbd1.out Hbd2.out Hbd3.out).mono ?_; rintro e w6 ⟨pb, rfl, hpb, hpl, hp0, hp1, hb6⟩; have HF6 := Lib.hid (HF5.out.below hb6 HF5.out.lt); have hS6 := Lib.hid (HF6.out.two); have hB6 := Lib.hid (Below.call hB5.out hb6 hB5.out.size); have Hr6 := Lib.hid (Hr5.out.below hb6 (Nat.le_refl _)); have Hei := Lib.hid (ErrIs.fault (HS.out.below hB6.out hB0) (k := 1) (by omega) hpl hp0 hp1); clear hb6 hp0 hp1 hpb)
          | (go_at_call 49; refine (faulted_any _ _ _ 2 ib _ (HS.out.below hB6.out hB0) (Nat.le_trans hB0 hB6.out.size) Hei.out (by decide) (.inr rfl)).mono ?_; rintro e w7 ⟨rfl, hb7⟩; have HF7 := Lib.hid (HF6.out.below hb7 HF6.out.lt); have hS7 := Lib.hid (HF7.out.two); have hB7 := Lib.hid (Below.call hB6.out hb7 hB6.out.size); have Hr7 := Lib.hid (Hr6.out.below hb7 (Nat.le_refl _)); clear hb7)
          | (go_at_call 18; refine (len_any g (.slice none 0 0) [] _ Hr7.out).mono ?_; rintro e w' ⟨rfl, rfl⟩)
          | (go_at_call 36; refine (bytes_any g (.slice none 0 0) [] _ Hr7.out).mono ?_; rintro e w' ⟨rfl, rfl⟩)
          | (go_at_call 35; refine (pack_any [] (by first | omega | simp) _).mono ?_; rintro e w8 ⟨rfl, hb8⟩; have HF8 := Lib.hid (HF7.out.below hb8 HF7.out.lt); have hS8 := Lib.hid (HF8.out.two); have hB8 := Lib.hid (Below.call hB7.out hb8 hB7.out.size); clear hb8))
    have z0 := HF8.out.cell 0
    simp only [List.getElem?_toArray, List.getElem?_cons_zero] at z0
    have hBZ := hB8
    go_wp2
  all_goals
    go_loopw [10, 14] (fun m i wr => ∃ (k : Nat) (st : ByteArray) (L : List Bool), k ≤ n' ∧ i = .int .i64 k ∧ m = .string st ∧ st = txt L ∧ st.size = L.length ∧ L = okL (ps.take k) ∧ L.length ≤ 64 * k ∧ Below w.heap.size w wr) (fun _ i _ => n' - (intOf i).toNat)
    case atStart => exact ⟨0, ByteArray.empty, [], by omega, rfl, rfl, rfl, rfl, rfl, by simp, hBZ.out⟩
    case round =>
      obtain ⟨k, st, L, hk, rfl, rfl, hst, hsz, hL, hLk, hbel⟩ := hrel
      have Hst := Lib.hid hst; have Hsz := Lib.hid hsz; have HL := Lib.hid hL; have Hbel := Lib.hid hbel
      clear hst hsz hL hbel
      by_cases hkn : k < n'
      · obtain ⟨bb, off, y, hAe, had, hy, e0, e1⟩ := HA'.out.at2 hkn
        subst hAe
        have e0' := (Hbel.out.cell (p := ⟨bb, off + k * 2, none⟩) had).trans e0
        have e1' := (Hbel.out.cell (p := ⟨bb, off + k * 2 + 1, none⟩) had).trans e1
        obtain ⟨hy0, hy1⟩ := Hps.out y (List.mem_of_getElem? hy)
        have hwr : w.heap.size ≤ wr.heap.size := Hbel.out.size
        clear e0 e1
        by_cases hgood : 0 ≤ y.2 ∧ y.2 ≤ 64
        · obtain ⟨v, hv⟩ := Int.eq_ofNat_of_zero_le hy0
          obtain ⟨m, hm⟩ := Int.eq_ofNat_of_zero_le hgood.1
          have hm64 : m ≤ 64 := by omega
          have hv64 : v < 18446744073709551616 := by omega
          have hLn : okL (ps.take (k + 1)) = L ++ bitsN v m := by
            rw [okL_good hy hgood, ← HL.out, hv, hm, Int.toNat_natCast, Int.toNat_natCast]
          rw [hv] at e0'
          rw [hm] at e1'
          have HS1 := Lib.hid (show wr.drew.cell? ⟨bb, off + k * 2, none⟩ = some (.int .u64 (v : Int)) ∧ wr.drew.cell? ⟨bb, off + k * 2 + 1, none⟩ = some (.int .i64 (m : Int)) from ⟨e0', e1'⟩)
          have hB3 := Lib.hid (show Below w.heap.size w wr.drew from Hbel.out.drew)
          have m1 : (m : Int) ≤ 64 := by omega
          have hnext : st ++ txt (bitsN v m) = txt (L ++ bitsN v m) := by rw [Hst.out, txt_append]
          have htbs : (txt (bitsN v m)).size = m := by rw [txt_size, bitsN_len]
          have hLs : (L ++ bitsN v m).length = L.length + m := by rw [List.length_append, bitsN_len]
          have hss := Hsz.out
          generalize htb : txt (bitsN v m) = tb at hnext htbs
          have HLn := Lib.hid hLn; have Htb := Lib.hid htb; have Hnext := Lib.hid hnext; have HLs := Lib.hid hLs
          have hcat : ¬ 9223372036854775807 < L.length + m := by omega
          clear hLn htb hnext hLs hy hgood hv hm hy0 hy1
          go_wp2_with fail
          go_region_held3 (fun w' => w'.cell? ⟨bb, off + k * 2, none⟩ = some (.int .u64 (v : Int)) ∧ w'.cell? ⟨bb, off + k * 2 + 1, none⟩ = some (.int .i64 (m : Int)))
            (first | with_reducible exact HS1.out | (with_reducible refine keep2 hb4'.out ?_ ?_ HS1.out <;> first | (simp; done) | (simp; omega)))
            (first | (go_at_call 34; refine (bits_any v m hv64 hm64 _).mono ?_; rintro e w4 ⟨rfl, hb4⟩; rw [Htb.out]; have hb4' := Lib.hid (hb4.mono hB3.out.size); have hb4 := Lib.hid hb4))
          go_wp2
          go_roundw
          case rel => exact ⟨k + 1, _, L ++ bitsN v m, by omega, by go_num, rfl, Hnext.out, by rw [Hnext.out, txt_size], HLn.out.symm, by rw [HLs.out]; omega, Below.call hB3.out hb4.out hB3.out.size⟩
          case measure => simp [intOf]; omega
        · have hLn := okL_bad hy hgood
          rw [← HL.out] at hLn
          have HLn := Lib.hid hLn
          have hbad : y.2 < 0 ∨ 64 < y.2 := by omega
          clear hLn hy hgood
          rcases hbad with hbad | hbad
          · go_wp2
            go_roundw
            case rel => exact ⟨k + 1, st, L, by omega, by go_num, rfl, Hst.out, Hsz.out, HLn.out.symm, by omega, Hbel.out⟩
            case measure => simp [intOf]; omega
          · have hge : 0 ≤ y.2 := by omega
            go_wp2
            go_roundw
            case rel => exact ⟨k + 1, st, L, by omega, by go_num, rfl, Hst.out, Hsz.out, HLn.out.symm, by omega, Hbel.out⟩
            case measure => simp [intOf]; omega
      · have hst := Hst.out
        subst hst
        have hss := Hsz.out
        have hL4 : L.length ≤ 1920 := by omega
        go_wp2_with fail
        refine (openBits_any L (by omega) _).mono ?_
        rintro e w24 ⟨g2, rfl, hg2, hrd, hb24⟩
        have hB24 := Lib.hid (Below.call Hbel.out hb24 Hbel.out.size)
        have hg3 : w.heap.size ≤ g2 := Nat.le_trans Hbel.out.size hg2
        have Hrd24 := Lib.hid hrd
        clear hb24 hrd hg2
        by_cases hbad : N < 0 ∨ 120 < N
        · go_wp2_with fail
          refine (read_bad _ N _ (HS.out.below hB24.out hB0) hbad).mono ?_
          rintro e w25 ⟨rfl, hb25⟩
          have hB25 := Lib.hid (Below.call hB24.out hb25 hB24.out.size)
          clear hb25
          rcases hbad with hbad | hbad
          · go_wp2_with (go_at_call 21; refine (coded_any _ _ _ 2 _ (HS.out.below hB25.out hB0) (Nat.le_trans hB0 hB25.out.size) (ErrIs.sent (HS.out.below hB25.out hB0) (k := 1) (by omega))).mono ?_; rintro e w29 ⟨rfl, hb29⟩; rw [fcode_2]; have hB29 := Lib.hid (Below.call hB25.out hb29 hB25.out.size); clear hb29)
            go_ret
            exact ⟨rfl, hB29.out⟩
          · have hN0 : 0 ≤ N := by omega
            go_wp2_with (go_at_call 21; refine (coded_any _ _ _ 2 _ (HS.out.below hB25.out hB0) (Nat.le_trans hB0 hB25.out.size) (ErrIs.sent (HS.out.below hB25.out hB0) (k := 1) (by omega))).mono ?_; rintro e w29 ⟨rfl, hb29⟩; rw [fcode_2]; have hB29 := Lib.hid (Below.call hB25.out hb29 hB25.out.size); clear hb29)
            go_ret
            exact ⟨rfl, hB29.out⟩
        obtain ⟨M, rfl⟩ := Int.eq_ofNat_of_zero_le (show 0 ≤ N by omega)
        have hM : M ≤ 120 := by omega
        have hM' : (M : Int) ≤ 120 := by omega
        clear hbad
        go_wp2_with fail
        refine (read_any g2 0 L.length (packN L) M _ (HS.out.below hB24.out hB0) (Nat.le_trans hB0 hB24.out.size) (Nat.le_trans hB0 hg3) Hrd24.out hM).mono ?_
        rintro e w25 ⟨her, hok, hf⟩
        rw [rbits_pack] at her hok
        have hB25 := Lib.hid (Below.trans hB24.out (hf.below hB24.out.size (fun k hk hs => by omega)))
        have Hrt2 := Lib.hid (readTicks_any L M w25 (by omega) hM)
        clear hf
        cases hr : rdT L M [] 0 with
        | err ce =>
          obtain rfl := her ce hr
          have hce := rdT_err M [] 0 ce hr
          have Hrr := Lib.hid hr
          clear her hok hr
          go_wp2_with fail
          refine Hrt2.out.mono ?_
          rintro e w26 ⟨her2, _, hb26⟩
          obtain rfl := her2 ce Hrr.out
          have hB26 := Lib.hid (Below.call hB25.out hb26 hB25.out.size)
          have hce1 : (0 : Int) < (ce : Int) + 1 := by omega
          have hce11 : ce < 11 := by omega
          clear her2 hb26
          go_wp2_with fail
          refine (coded_any _ _ _ ((ce : Int) + 1) _ (HS.out.below hB26.out hB0) (Nat.le_trans hB0 hB26.out.size) (ErrIs.sent (HS.out.below hB26.out hB0) (k := ce) hce11)).mono ?_
          rintro e w27 ⟨rfl, hb27⟩
          rw [fcode_s]
          have hB27 := Lib.hid (Below.call hB26.out hb27 hB26.out.size)
          clear hb27
          go_wp2_with fail
          refine (sameInts_eq none 0 0 none 0 [] _ Rd.nil Rd.nil (by omega)).mono ?_
          rintro e w28 ⟨rfl, hb28⟩
          have hB28 := Lib.hid (Below.call hB27.out hb28 hB27.out.size)
          clear hb28
          go_wp2
          go_ret
          exact ⟨rfl, hB28.out⟩
        | ok lo qo =>
          obtain ⟨v25, rfl, hown, hrd⟩ := hok lo qo hr
          obtain ⟨A25, c25, rfl, _, _, hr25⟩ := own_form hown
          have hqo := hrd.2.1
          have Hrr := Lib.hid hr; have Hrd25 := Lib.hid hrd; have Hr25 := Lib.hid hr25
          clear her hok hr hown hrd hr25
          go_wp2_with fail
          refine Hrt2.out.mono ?_
          rintro e w26 ⟨_, hok2, hb26⟩
          obtain ⟨v26, rfl, hown2⟩ := hok2 lo qo Hrr.out
          obtain ⟨A26, c26, rfl, _, _, hr26⟩ := own_form hown2
          have hB26 := Lib.hid (Below.call hB25.out hb26 hB25.out.size)
          have Hr25b := Lib.hid ((Hr25.out.below hb26).more hb26.size)
          have Hrd26 := Lib.hid (Hrd25.out.below hb26 (Nat.le_refl _))
          have Hr26 := Lib.hid hr26
          clear hok2 hb26 hown2 hr26
          go_wp2_with fail
          refine (coded_any .nilIface 0 (-1) 0 _ (HS.out.below hB26.out hB0) (Nat.le_trans hB0 hB26.out.size) ErrIs.nil).mono ?_
          rintro e w27 ⟨rfl, hb27⟩
          rw [fcode_0]
          have hB27 := Lib.hid (Below.call hB26.out hb27 hB26.out.size)
          have Hr25c := Lib.hid ((Hr25b.out.below hb27).more hb27.size)
          have Hr26c := Lib.hid ((Hr26.out.below hb27).more hb27.size)
          have Hrd27 := Lib.hid (Hrd26.out.below hb27 (Nat.le_refl _))
          clear hb27
          go_wp2_with fail
          refine (sameInts_eq A25 M c25 A26 c26 lo _ Hr25c.out Hr26c.out (by omega)).mono ?_
          rintro e w28 ⟨rfl, hb28⟩
          have hB28 := Lib.hid (Below.call hB27.out hb28 hB27.out.size)
          have Hrd28 := Lib.hid (Hrd27.out.below hb28 (Nat.le_refl _))
          clear hb28
          go_wp2_with fail
          refine (left_any g2 qo L.length (packN L) _ Hrd28.out).mono ?_
          rintro e w29 ⟨rfl, hb29⟩
          have hB29 := Lib.hid (Below.call hB28.out hb29 hB28.out.size)
          clear hb29
          go_wp2
          go_ret
          exact ⟨rfl, hB29.out⟩
end Go.Proofs.YtiohnehccmbplaaDoor
